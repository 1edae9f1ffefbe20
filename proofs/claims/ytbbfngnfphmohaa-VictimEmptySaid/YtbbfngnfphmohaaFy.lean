/- Helper: products and quotients of floats, within a small part of what was reckoned. No condition. -/
import Derived.Test.YtbbfngnfphmohaaFx
namespace Go.Proofs.Ytbbfngnfphmohaa.Fl
open Go.RowKit
/-- A normal float, far from the ends. -/
structure Nrm (w m e : Nat) : Prop where
  w_eq : w = e * 2 ^ 52 + m
  lo : 2 ^ 52 ≤ m
  hi : m ≤ 2 ^ 53
theorem log2_mid {m : Nat} (h1 : 2 ^ 52 ≤ m) (h2 : m < 2 ^ 53) : m.log2 = 52 := by
  have h0 : m ≠ 0 := by omega
  have a := (Nat.le_log2 h0 (k := 52)).2 h1
  have b := (Nat.log2_lt h0 (k := 53)).2 h2
  omega
theorem pow_split (a b c : Nat) (h : a = b + c) : 2 ^ a = 2 ^ b * 2 ^ c := by rw [h, Nat.pow_add]
def bexp : Nat := 1074
theorem bexp_eq : bexp = 1074 := rfl
def bigU : Nat := 2 ^ bexp
theorem bigU_eq : bigU = 2 ^ bexp := rfl
theorem pow_of {a b : Nat} (h : a = b) : 2 ^ a = 2 ^ b := by rw [h]
def kA : Nat := 2 ^ 52 - 1
theorem kA_eq : kA + 1 = 2 ^ 52 := by decide
/-- From an error of half a unit to one by parts. -/
theorem err_up {X Y F K : Nat} (h : 2 * X ≤ 2 * Y + F) (hF : F * (K + 1) ≤ 2 * X) : X * K ≤ Y * (K + 1) := by
  have h2 := Nat.mul_le_mul_right (K + 1) h
  rw [Nat.add_mul, Nat.mul_assoc, Nat.mul_assoc] at h2
  have e : X * (K + 1) = X * K + X := by rw [Nat.mul_add, Nat.mul_one]
  rw [e] at h2
  omega
theorem err_dn {X Y F K : Nat} (h : 2 * Y ≤ 2 * X + F) (hF : F * (K + 1) ≤ 2 * X) : Y * (K + 1) ≤ X * (K + 2) := by
  have h2 := Nat.mul_le_mul_right (K + 1) h
  rw [Nat.add_mul, Nat.mul_assoc, Nat.mul_assoc] at h2
  have e : X * (K + 2) = X * (K + 1) + X := by rw [show K + 2 = (K + 1) + 1 from rfl, Nat.mul_add, Nat.mul_one]
  rw [e]
  omega
theorem half_le {X F n : Nat} (h : F * n ≤ X) : F * n ≤ 2 * X := by omega
theorem mul_spec {x mx ex y my ey : Nat} (hx : Nrm x mx ex) (hy : Nrm y my ey) (ax : 900 ≤ ex) (bx : ex ≤ 1100) (ay : 900 ≤ ey) (bY : ey ≤ 1100) :
    ∃ r m e, floatBits .mul .f64 x y = some r ∧ Nrm r m e ∧ 700 ≤ e ∧ e ≤ 1300 ∧ (m * 2 ^ e * bigU) * kA ≤ ((mx * 2 ^ ex) * (my * 2 ^ ey)) * (kA + 1) ∧ ((mx * 2 ^ ex) * (my * 2 ^ ey)) * (kA + 1) ≤ (m * 2 ^ e * bigU) * (kA + 2) := by
  obtain ⟨mx', ex', rx, vx, x1, x2, x3, x4⟩ := read_spec mx ex hx.lo hx.hi (by omega)
  obtain ⟨my', ey', ry, vy, y1, y2, y3, y4⟩ := read_spec my ey hy.lo hy.hi (by omega)
  rw [← hx.w_eq] at rx
  rw [← hy.w_eq] at ry
  have hp1 : 2 ^ 52 * 2 ^ 52 ≤ mx' * my' := Nat.mul_le_mul x1 y1
  have hp2 : mx' * my' < 2 ^ 53 * 2 ^ 53 := Nat.mul_lt_mul'' x2 y2
  have h0 : mx' * my' ≠ 0 := by omega
  have l1 := (Nat.le_log2 h0 (k := 104)).2 (by rw [pow_split 104 52 52 rfl]; exact hp1)
  have l2 := (Nat.log2_lt h0 (k := 106)).2 (by rw [pow_split 106 53 53 rfl]; exact hp2)
  obtain ⟨m, e, hw, h1, h2, he, e1, e2⟩ := nearest_spec (mx' * my') ((ex' : Int) - 1074 + ((ey' : Int) - 1074)) h0 (by omega) (by omega)
  refine ⟨_, m, e, ?_, ⟨hw, h1, h2⟩, by omega, by omega, ?_⟩
  · show Ieee.double.mul x y = _
    unfold Ieee.Format.mul
    rw [rx, ry]
    rfl
  · rw [← vx, ← vy]
    generalize hk : (mx' * my').log2 = k at *
    rw [show 52 - k = 0 from by omega, Nat.pow_zero, Nat.mul_one] at e1 e2
    have hV : mx' * 2 ^ ex' * (my' * 2 ^ ey') = mx' * my' * 2 ^ (ex' + ey') := by rw [Nat.pow_add, Nat.mul_mul_mul_comm]
    have hR : m * 2 ^ e * bigU = m * 2 ^ (k - 52) * 2 ^ (ex' + ey') := by
      have hb := bexp_eq
      rw [bigU_eq, Nat.mul_assoc, ← Nat.pow_add, Nat.mul_assoc, ← Nat.pow_add, pow_of (show e + bexp = k - 52 + (ex' + ey') from by omega)]
    have hF : 2 ^ (k - 52) * 2 ^ (ex' + ey') * (kA + 1) ≤ m * 2 ^ (k - 52) * 2 ^ (ex' + ey') := by
      rw [Nat.mul_comm _ (kA + 1), ← Nat.mul_assoc, kA_eq]
      exact Nat.mul_le_mul_right _ (Nat.mul_le_mul_right _ h1)
    have f1 := Nat.mul_le_mul_right (2 ^ (ex' + ey')) e1
    have f2 := Nat.mul_le_mul_right (2 ^ (ex' + ey')) e2
    rw [Nat.add_mul, Nat.mul_assoc, Nat.mul_assoc 2] at f1 f2
    rw [hV, hR]
    exact ⟨err_up f1 (half_le hF), err_dn f2 (half_le hF)⟩
theorem quo_spec {x mx ex y my ey : Nat} (hx : Nrm x mx ex) (hy : Nrm y my ey) (ax : 700 ≤ ex) (bx : ex ≤ 1300) (ay : 900 ≤ ey) (bY : ey ≤ 1100) :
    ∃ r m e, floatBits .quo .f64 x y = some r ∧ Nrm r m e ∧ 500 ≤ e ∧ e ≤ 1600 ∧ (m * 2 ^ e * (my * 2 ^ ey)) * kA ≤ (mx * 2 ^ ex * bigU) * (kA + 1) ∧ (mx * 2 ^ ex * bigU) * (kA + 1) ≤ (m * 2 ^ e * (my * 2 ^ ey)) * (kA + 2) := by
  obtain ⟨mx', ex', rx, vx, x1, x2, x3, x4⟩ := read_spec mx ex hx.lo hx.hi (by omega)
  obtain ⟨my', ey', ry, vy, y1, y2, y3, y4⟩ := read_spec my ey hy.lo hy.hi (by omega)
  rw [← hx.w_eq] at rx
  rw [← hy.w_eq] at ry
  have hy0 : my' ≠ 0 := by omega
  obtain ⟨D, hD⟩ : ∃ D, D = mx' * 2 ^ 54 := ⟨_, rfl⟩
  obtain ⟨q, hq⟩ : ∃ q, q = 2 * (D / my') + (D % my' != 0).toNat := ⟨_, rfl⟩
  have hdm := Nat.div_add_mod D my'
  have hml := Nat.mod_lt D (show 0 < my' by omega)
  have hd1 : 2 ^ 53 ≤ D / my' := (Nat.le_div_iff_mul_le (by omega)).2 (by omega)
  have hd2 : D / my' < 2 ^ 55 := (Nat.div_lt_iff_lt_mul (by omega)).2 (by omega)
  have hq1 : 2 ^ 54 ≤ q := by omega
  have hq2 : q < 2 ^ 56 := by
    have : (D % my' != 0).toNat ≤ 1 := by cases (D % my' != 0) <;> decide
    omega
  have hqa : q * my' ≤ 2 * D + my' ∧ 2 * D ≤ q * my' + my' := by
    rw [hq, Nat.add_mul, Nat.mul_assoc, Nat.mul_comm (D / my')]
    generalize my' * (D / my') = z at *
    cases hb : (D % my' != 0) with
    | true => simp only [Bool.toNat_true, Nat.one_mul]; omega
    | false =>
      have : D % my' = 0 := by simpa using hb
      simp only [Bool.toNat_false, Nat.zero_mul]; omega
  have h0 : q ≠ 0 := by omega
  have l1 := (Nat.le_log2 h0 (k := 54)).2 hq1
  have l2 := (Nat.log2_lt h0 (k := 56)).2 hq2
  obtain ⟨m, e, hw, h1, h2, he, e1, e2⟩ := nearest_spec q ((ex' : Int) - 1074 - ((ey' : Int) - 1074) - 54 - 1) h0 (by omega) (by omega)
  refine ⟨_, m, e, ?_, ⟨hw, h1, h2⟩, by omega, by omega, ?_⟩
  · show Ieee.double.div x y = _
    unfold Ieee.Format.div
    rw [rx, ry]
    simp only [Ieee.Datum.quotient]
    rw [if_neg hy0, log2_mid x1 x2, log2_mid y1 y2, show Ieee.double.fractionBits + 2 + 52 - 52 = 54 from rfl, Nat.shiftLeft_eq, ← hD, ← hq]
    rfl
  · rw [← vx, ← vy]
    clear hw
    generalize hk : q.log2 = k at *
    rw [show 52 - k = 0 from by omega, Nat.pow_zero, Nat.mul_one] at e1 e2
    obtain ⟨F, hF⟩ : ∃ F, F = 2 ^ (ex' + 1019) := ⟨_, rfl⟩
    have p1 : 2 ^ ex' * bigU = 2 ^ 55 * 2 ^ (ex' + 1019) := by
      have hb := bexp_eq
      rw [bigU_eq, ← Nat.pow_add, ← Nat.pow_add, pow_of (show ex' + bexp = 55 + (ex' + 1019) from by omega)]
    have p2 : 2 ^ e * 2 ^ ey' = 2 ^ (k - 52) * 2 ^ (ex' + 1019) := by
      rw [← Nat.pow_add, ← Nat.pow_add, pow_of (show e + ey' = k - 52 + (ex' + 1019) from by omega)]
    have hV : mx' * 2 ^ ex' * bigU = 2 * D * F := by
      rw [Nat.mul_assoc, p1, hF, hD, show (2 : Nat) ^ 55 = 2 * 2 ^ 54 from rfl]
      generalize (2 : Nat) ^ 54 = p
      generalize 2 ^ (ex' + 1019) = r
      ac_rfl
    have hR : m * 2 ^ e * (my' * 2 ^ ey') = m * 2 ^ (k - 52) * my' * F := by
      rw [Nat.mul_mul_mul_comm, p2, hF]
      generalize 2 ^ (ex' + 1019) = r
      generalize 2 ^ (k - 52) = p
      ac_rfl
    rw [hV, hR]
    have hs4 : 4 ≤ 2 ^ (k - 52) := by
      have := Nat.pow_le_pow_right (n := 2) (by omega) (show 2 ≤ k - 52 by omega)
      omega
    generalize 2 ^ (k - 52) = g at *
    have g1 : 2 * (m * g * my') ≤ 2 * (2 * D) + (g + 2) * my' := by
      have := Nat.mul_le_mul_right my' e1
      rw [Nat.add_mul, Nat.mul_assoc 2, Nat.mul_assoc 2] at this
      rw [Nat.add_mul]
      omega
    have g2 : 2 * (2 * D) ≤ 2 * (m * g * my') + (g + 2) * my' := by
      have := Nat.mul_le_mul_right my' e2
      rw [Nat.add_mul, Nat.mul_assoc 2, Nat.mul_assoc 2] at this
      rw [Nat.add_mul]
      omega
    have g3 : (g + 2) * my' * (kA + 1) ≤ 2 * (m * g * my') := by
      have a : (g + 2) * (kA + 1) ≤ 2 * (m * g) := by
        have := Nat.mul_le_mul_right g h1
        rw [kA_eq, Nat.add_mul]
        omega
      have := Nat.mul_le_mul_right my' a
      rw [Nat.mul_right_comm, Nat.mul_assoc 2] at this
      exact this
    have k1 := Nat.mul_le_mul_right F g1
    have k2 := Nat.mul_le_mul_right F g2
    have k3 := Nat.mul_le_mul_right F g3
    rw [Nat.add_mul, Nat.mul_assoc 2, Nat.mul_assoc 2 (2 * D)] at k1
    rw [Nat.add_mul, Nat.mul_assoc 2 (2 * D), Nat.mul_assoc 2 (m * g * my')] at k2
    rw [Nat.mul_right_comm, Nat.mul_assoc 2] at k3
    exact ⟨err_up k1 k3, err_dn k2 k3⟩
end Go.Proofs.Ytbbfngnfphmohaa.Fl
