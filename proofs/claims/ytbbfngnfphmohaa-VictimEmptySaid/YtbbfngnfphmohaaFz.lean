/- Helper: of blocks of as many pages, written as long ago, the one of which fewer live is worth more, as plain numbers. No condition. -/
import Derived.Test.YtbbfngnfphmohaaFy
namespace Go.Proofs.Ytbbfngnfphmohaa.Fl
open Go.RowKit
def one : Nat := 4607182418800017408
def two : Nat := 4611686018427387904
def inf : Nat := 9218868437227405312
def x1022 : Nat := 1022
theorem x1022_eq : x1022 = 1022 := rfl
theorem one_read : Ieee.double.read one = .number false (2 ^ 52) (-52) := by decide +kernel
/-- How long ago, and one more. -/
theorem add_one (n : Nat) (hn : n ≤ 65535) : ∃ a m e, floatBits .add .f64 (flI (n : Int)) one = some a ∧ Nrm a m e ∧ 1000 ≤ e ∧ e ≤ 1100 := by
  by_cases h0 : n = 0
  · subst h0
    refine ⟨one, 2 ^ 52, 1022, by decide +kernel, ⟨by decide, by decide, by decide⟩, by omega, by omega⟩
  · have l1 : n.log2 ≤ 15 := by
      have := (Nat.log2_lt h0 (k := 16)).2 (by omega)
      omega
    obtain ⟨m, e, hw, h1, h2, he, e1, e2⟩ := nearest_spec n 0 h0 (by omega) (by omega)
    rw [show n.log2 - 52 = 0 from by omega, Nat.pow_zero, Nat.mul_one] at e1 e2
    have hm : m = n * 2 ^ (52 - n.log2) := by omega
    obtain ⟨m', e', hr, hv, x1, x2, x3, x4⟩ := read_spec m e h1 h2 (by omega)
    have hfl : flI (n : Int) = e * 2 ^ 52 + m := by
      rw [← hw]
      show Ieee.double.nearest (decide ((n : Int) < 0)) (n : Int).natAbs 0 = _
      rw [decide_eq_false (by omega)]
      rfl
    have hval : m' * 2 ^ (e' - 1022) = n * 2 ^ 52 := by
      have p1 : 2 ^ e' = 2 ^ (e' - 1022) * 2 ^ x1022 := by rw [← Nat.pow_add, pow_of (show e' - 1022 + x1022 = e' from by have := x1022_eq; omega)]
      have p2 : 2 ^ (52 - n.log2) * 2 ^ e = 2 ^ 52 * 2 ^ x1022 := by rw [← Nat.pow_add, ← Nat.pow_add, pow_of (show 52 - n.log2 + e = 52 + x1022 from by have := x1022_eq; omega)]
      rw [hm, Nat.mul_assoc, p2, p1, ← Nat.mul_assoc, ← Nat.mul_assoc] at hv
      exact Nat.eq_of_mul_eq_mul_right (Nat.two_pow_pos _) hv
    have hA : (n + 1) * 2 ^ 52 ≠ 0 := by omega
    have l2 := (Nat.le_log2 hA (k := 52)).2 (by omega)
    have l3 := (Nat.log2_lt hA (k := 70)).2 (by omega)
    obtain ⟨m2, e2', hw2, a1, a2, he2, _, _⟩ := nearest_spec ((n + 1) * 2 ^ 52) (-52) hA (by omega) (by omega)
    refine ⟨_, m2, e2', ?_, ⟨hw2, a1, a2⟩, by omega, by omega⟩
    show Ieee.double.add _ _ = _
    unfold Ieee.Format.add
    rw [hfl, hr, one_read]
    simp only [Ieee.Datum.sum]
    have hb : min ((e' : Int) - 1074) (-52) = -52 := by omega
    rw [hb]
    have s1 : Ieee.signed false m' ((e' : Int) - 1074 - -52).toNat = ((n * 2 ^ 52 : Nat) : Int) := by
      unfold Ieee.signed
      rw [if_neg (by decide), Nat.shiftLeft_eq, show ((e' : Int) - 1074 - -52).toNat = e' - 1022 from by omega, hval]
    have s2 : Ieee.signed false (2 ^ 52) ((-52 : Int) - -52).toNat = ((2 ^ 52 : Nat) : Int) := by decide
    rw [s1, s2]
    have s3 : ((n * 2 ^ 52 : Nat) : Int) + ((2 ^ 52 : Nat) : Int) = (((n + 1) * 2 ^ 52 : Nat) : Int) := by omega
    rw [s3, if_neg (by omega), decide_eq_false (by omega), Int.natAbs_natCast]
    rfl
end Go.Proofs.Ytbbfngnfphmohaa.Fl
