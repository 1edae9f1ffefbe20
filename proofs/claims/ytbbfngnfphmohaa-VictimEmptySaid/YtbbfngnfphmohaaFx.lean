/- Helper: how far a float that was rounded is from what was reckoned; that blocks with fewer live pages are worth more. No condition. -/
import Derived.Test.YtbbfngnfphmohaaVa
namespace Go.Proofs.Ytbbfngnfphmohaa.Fl
open Go.RowKit
theorem binade_eq : Ieee.double.binade = 2 ^ 52 := by decide
theorem least_eq : Ieee.double.leastPlace = -1074 := by decide
theorem inf_eq : Ieee.double.infRung = 2047 * 2 ^ 52 := by decide
theorem sign_eq : Ieee.double.signWeight = 2 ^ 63 := by decide
theorem word_pos (r : Nat) : Ieee.double.word false r = r := rfl
theorem bits_eq : ((Ieee.double.fractionBits : Nat) : Int) = 52 := rfl
theorem cut_spec (M s : Nat) (hs : s ≤ M.log2 + 2) : ∃ kept, Ieee.Toward.even.cut false M s = kept ∧ M / 2 ^ s ≤ kept ∧ kept ≤ M / 2 ^ s + 1 ∧ 2 * (kept * 2 ^ s) ≤ 2 * M + 2 ^ s ∧ 2 * M ≤ 2 * (kept * 2 ^ s) + 2 ^ s := by
  refine ⟨_, rfl, ?_⟩
  unfold Ieee.Toward.cut
  simp only
  rw [Nat.min_eq_left hs, Nat.one_shiftLeft]
  have hp : 0 < 2 ^ s := Nat.two_pow_pos s
  have hd := Nat.div_add_mod M (2 ^ s)
  have hr := Nat.mod_lt M hp
  rw [Nat.mul_comm] at hd
  generalize M / 2 ^ s = low at *
  generalize M % 2 ^ s = rest at *
  generalize 2 ^ s = g at *
  cases hb : (decide (g < 2 * rest) || g == 2 * rest && low % 2 == 1) with
  | true =>
    have h1 : g ≤ 2 * rest := by
      simp only [Bool.or_eq_true, decide_eq_true_eq, Bool.and_eq_true, beq_iff_eq] at hb
      omega
    show low ≤ low + 1 ∧ low + 1 ≤ low + 1 ∧ 2 * ((low + 1) * g) ≤ 2 * M + g ∧ 2 * M ≤ 2 * ((low + 1) * g) + g
    rw [Nat.add_mul, Nat.one_mul]
    omega
  | false =>
    have h1 : 2 * rest ≤ g := by
      simp only [Bool.or_eq_false_iff, decide_eq_false_iff_not] at hb
      omega
    show low ≤ low + 0 ∧ low + 0 ≤ low + 1 ∧ 2 * ((low + 0) * g) ≤ 2 * M + g ∧ 2 * M ≤ 2 * ((low + 0) * g) + g
    rw [Nat.add_zero]
    omega
theorem nearest_spec (mag : Nat) (place : Int) (h0 : mag ≠ 0) (hlo : -1022 ≤ place + mag.log2) (hhi : place + mag.log2 ≤ 900) :
    ∃ m e : Nat, Ieee.double.nearest false mag place = e * 2 ^ 52 + m ∧ 2 ^ 52 ≤ m ∧ m ≤ 2 ^ 53 ∧ (e : Int) = 1022 + place + mag.log2 ∧
      2 * (m * 2 ^ (mag.log2 - 52)) ≤ 2 * (mag * 2 ^ (52 - mag.log2)) + 2 ^ (mag.log2 - 52) ∧ 2 * (mag * 2 ^ (52 - mag.log2)) ≤ 2 * (m * 2 ^ (mag.log2 - 52)) + 2 ^ (mag.log2 - 52) := by
  have hk1 := Nat.log2_self_le h0
  have hk2 := Nat.lt_log2_self (n := mag)
  have hlast : max (place + mag.log2 - (Ieee.double.fractionBits : Nat)) Ieee.double.leastPlace = place + mag.log2 - 52 := by
    rw [least_eq, bits_eq]
    omega
  unfold Ieee.Format.nearest
  rw [if_neg h0]
  simp only
  rw [hlast, least_eq, binade_eq, inf_eq]
  obtain ⟨e, he⟩ : ∃ e : Nat, (e : Int) = 1022 + place + mag.log2 := ⟨(1022 + place + mag.log2).toNat, by omega⟩
  rw [show (place + (mag.log2 : Int) - 52 - -1074).toNat = e from by omega, show (place - (place + (mag.log2 : Int) - 52)).toNat = 52 - mag.log2 from by omega, show (place + (mag.log2 : Int) - 52 - place).toNat = mag.log2 - 52 from by omega, Nat.shiftLeft_eq]
  generalize mag.log2 = k at *
  have hM : mag * 2 ^ (52 - k) ≠ 0 := by
    have := Nat.two_pow_pos (52 - k)
    exact Nat.mul_ne_zero h0 (by omega)
  have hs : k - 52 ≤ (mag * 2 ^ (52 - k)).log2 + 2 := by
    by_cases hk : k ≤ 52
    · omega
    · have : k ≤ (mag * 2 ^ (52 - k)).log2 := by
        rw [Nat.le_log2 hM, show 52 - k = 0 from by omega, Nat.pow_zero, Nat.mul_one]
        exact hk1
      omega
  obtain ⟨kept, hkept, h1, h2, h3, h4⟩ := cut_spec _ _ hs
  rw [hkept]
  have hlow : 2 ^ 52 ≤ mag * 2 ^ (52 - k) / 2 ^ (k - 52) ∧ mag * 2 ^ (52 - k) / 2 ^ (k - 52) < 2 ^ 53 := by
    by_cases hk : k ≤ 52
    · rw [show k - 52 = 0 from by omega, Nat.pow_zero, Nat.div_one]
      have e1 : 2 ^ 52 = 2 ^ k * 2 ^ (52 - k) := by rw [← Nat.pow_add]; congr 1; omega
      have e2 : 2 ^ 53 = 2 ^ (k + 1) * 2 ^ (52 - k) := by rw [← Nat.pow_add]; congr 1; omega
      rw [e1, e2]
      exact ⟨Nat.mul_le_mul_right _ hk1, Nat.mul_lt_mul_of_pos_right hk2 (Nat.two_pow_pos _)⟩
    · rw [show 52 - k = 0 from by omega, Nat.pow_zero, Nat.mul_one]
      have e1 : 2 ^ k = 2 ^ 52 * 2 ^ (k - 52) := by rw [← Nat.pow_add]; congr 1; omega
      have e2 : 2 ^ (k + 1) = 2 ^ 53 * 2 ^ (k - 52) := by rw [← Nat.pow_add]; congr 1; omega
      exact ⟨(Nat.le_div_iff_mul_le (Nat.two_pow_pos _)).2 (by rw [← e1]; exact hk1), (Nat.div_lt_iff_lt_mul (Nat.two_pow_pos _)).2 (by rw [← e2]; exact hk2)⟩
  refine ⟨kept, e, ?_, by omega, by omega, he, h3, h4⟩
  rw [word_pos]
  have : e ≤ 1922 := by omega
  rw [Nat.min_eq_left]
  omega
/-- What a normal float is. -/
theorem read_spec (m e : Nat) (h1 : 2 ^ 52 ≤ m) (h2 : m ≤ 2 ^ 53) (he : e ≤ 2000) : ∃ m' e' : Nat, Ieee.double.read (e * 2 ^ 52 + m) = .number false m' ((e' : Int) - 1074) ∧ m' * 2 ^ e' = m * 2 ^ e ∧ 2 ^ 52 ≤ m' ∧ m' < 2 ^ 53 ∧ e ≤ e' ∧ e' ≤ e + 1 := by
  unfold Ieee.Format.read
  simp only [sign_eq, binade_eq, inf_eq, least_eq]
  have hn : ((e * 2 ^ 52 + m) / 2 ^ 63 % 2 == 1) = false := by
    rw [Nat.div_eq_of_lt (by omega)]; rfl
  have hm : (e * 2 ^ 52 + m) % 2 ^ 63 = e * 2 ^ 52 + m := Nat.mod_eq_of_lt (by omega)
  rw [hn, hm, if_neg (by omega), if_pos (by omega)]
  by_cases hc : m = 2 ^ 53
  · subst hc
    refine ⟨2 ^ 52, e + 1, ?_, ?_, by omega, by omega, by omega, by omega⟩
    · rw [show (e * 2 ^ 52 + 2 ^ 53) % 2 ^ 52 = 0 from by omega, show (e * 2 ^ 52 + 2 ^ 53) / 2 ^ 52 - 1 = e + 1 from by omega]
      rw [Nat.add_zero]
      congr 1
    · rw [Nat.pow_succ]; omega
  · refine ⟨m, e, ?_, rfl, h1, by omega, by omega, by omega⟩
    rw [show 2 ^ 52 + (e * 2 ^ 52 + m) % 2 ^ 52 = m from by omega, show (e * 2 ^ 52 + m) / 2 ^ 52 - 1 = e from by omega]
    congr 1
/-- Greater numbers have greater words. -/
theorem word_lt_of {m1 e1 m2 e2 : Nat} (a1 : 2 ^ 52 ≤ m1) (_b1 : m1 ≤ 2 ^ 53) (_a2 : 2 ^ 52 ≤ m2) (b2 : m2 ≤ 2 ^ 53) (h : m1 * 2 ^ e1 < m2 * 2 ^ e2) : e1 * 2 ^ 52 + m1 < e2 * 2 ^ 52 + m2 := by
  rcases Nat.lt_or_ge e1 e2 with hlt | hge
  · obtain ⟨d, rfl⟩ : ∃ d, e2 = e1 + 1 + d := ⟨e2 - e1 - 1, by omega⟩
    by_cases hd : d = 0
    · subst hd
      have : m1 < m2 * 2 := by
        rw [Nat.add_zero, Nat.pow_succ, ← Nat.mul_assoc, Nat.mul_right_comm] at h
        exact Nat.lt_of_mul_lt_mul_right h
      omega
    · omega
  · obtain ⟨d, rfl⟩ : ∃ d, e1 = e2 + d := ⟨e1 - e2, by omega⟩
    have h' : m1 * 2 ^ d < m2 := by
      rw [Nat.pow_add, Nat.mul_comm (2 ^ e2), ← Nat.mul_assoc] at h
      exact Nat.lt_of_mul_lt_mul_right h
    by_cases hd : d = 0
    · subst hd; rw [Nat.pow_zero] at h'; omega
    · have : 2 ≤ 2 ^ d := by
        have := Nat.pow_le_pow_right (n := 2) (by omega) (show 1 ≤ d by omega)
        omega
      have := Nat.mul_le_mul a1 this
      omega
end Go.Proofs.Ytbbfngnfphmohaa.Fl
