/- Helper: the law UpdRefuses; walked. No condition. -/
import Derived.Test.YticnmogeknlmeaaGreatDoorNZd
import Derived.Test.YticnmogeknlmeaaGreatDoorN07
import Derived.Test.YticnmogeknlmeaaGreatDoorN14
import Derived.Laws.IdiomStrings
namespace Go.Proofs.YticnmogeknlmeaaGreatDoor.B
open Go.RowKit Go.Maps Go.Proofs.YticnmogeknlmeaaGreatDoorW.PrintWords Go.Proofs.YticnmogeknlmeaaGreatDoor.Later
set_option maxRecDepth 100000
set_option maxHeartbeats 4000000
theorem RowF.put {w : World} {base g cap : Nat} {xs : List UInt8} (h : RowF w base (.slice (some ⟨g, 0, none⟩) xs.length cap) xs) (j : Nat) (y : UInt8) : RowF (w.setCell ⟨g, j, none⟩ (encB y)) base (.slice (some ⟨g, 0, none⟩) xs.length cap) (xs.set j y) := by
  obtain ⟨g', cap', cur, lo, hi, h1, h2, h3, h4, h5, h6, h7⟩ := h
  have e : g = g' ∧ cap = cap' := by cases h1; exact ⟨rfl, rfl⟩
  obtain ⟨rfl, rfl⟩ := e
  have hg2 : (w.setCell ⟨g, j, none⟩ (encB y)).heap[g]? = some (.cells (cur.setIfInBounds j (encB y)) 5 (lo, hi)) := by
    simp only [World.setCell, Array.getElem?_modify, if_true, h3]
    rfl
  refine ⟨g, cap, _, lo, hi, by rw [List.length_set], h2, hg2, by rw [Array.size_setIfInBounds]; exact h4, by rw [Array.size_setIfInBounds]; exact h5, by rw [List.length_set]; exact h6, fun i hi' => ?_⟩
  rw [List.length_set] at hi'
  by_cases hij : i = j
  · subst hij
    rw [Array.getElem?_setIfInBounds_self_of_lt (by omega), List.getElem_set_self]
  · rw [Array.getElem?_setIfInBounds_ne (fun e => hij e.symm), h7 i hi', List.getElem_set_ne (fun e => hij e.symm)]
theorem RowF.free {w : World} {base g cap : Nat} {xs : List UInt8} (h : RowF w base (.slice (some ⟨g, 0, none⟩) xs.length cap) xs) (j : Nat) (hj : j < xs.length) : w.frozen? ⟨g, j, none⟩ = false := by
  obtain ⟨g', cap', cur, lo, hi, h1, h2, h3, h4, h5, h6, h7⟩ := h
  have e : g = g' ∧ cap = cap' := by cases h1; exact ⟨rfl, rfl⟩
  obtain ⟨rfl, rfl⟩ := e
  unfold World.frozen?
  simp only [h3]
  rcases h4 with h4 | h4
  · subst h4; simp
  · have : ¬ lo ≤ j := by omega
    simp [this]
theorem RowF.at0 {w : World} {base g cap : Nat} {xs : List UInt8} (h : RowF w base (.slice (some ⟨g, 0, none⟩) xs.length cap) xs) (j : Nat) (hj : j < xs.length) : w.cell? ⟨g, j, none⟩ = some (encB xs[j]) := by
  obtain ⟨g', cap', h1, h2, h3, h4⟩ := h.cell
  cases h1
  exact h4 j hj
theorem RowF.text {w : World} {base g cap n : Nat} {xs : List UInt8} (h : RowF w base (.slice (some ⟨g, 0, none⟩) n cap) xs) (hn : xs.length = n) : (convert 60 9 (.slice (some ⟨g, 0, none⟩) n cap)).run Tryz.prog w = .ok (.string (bs xs)) w := by
  subst hn
  refine run_convert_bytes_back w 60 9 5 _ cap xs (by kernel_rfl) (by kernel_rfl) (by kernel_rfl) ?_
  intro j hj
  have := h.at0 j hj
  simp only [encB] at this
  by_cases h0 : j = 0
  · subst h0; simpa [Addr.add] using this
  · simpa [Addr.add, h0] using this
theorem and_powD (m : Nat) (hm : m < 63) (c n : Int) (hc : c = (2 ^ m - 1 : Nat)) : Go.bits .and .i64 n c = n % (2 ^ m : Nat) := by
  have h1 : 2 ^ m ≤ 2 ^ 62 := Nat.pow_le_pow_right (by decide) (by omega)
  have hp : 0 < 2 ^ m := Nat.two_pow_pos m
  have h127 : (BitVec.ofInt 64 c).toNat = 2 ^ m - 1 := by
    rw [BitVec.toNat_ofInt, hc, show ((2 : Nat) ^ 64) = 18446744073709551616 from by decide]
    have : ((2 ^ m - 1 : Nat) : Int) % ((18446744073709551616 : Nat) : Int) = ((2 ^ m - 1 : Nat) : Int) := Int.emod_eq_of_lt (by omega) (by omega)
    rw [this]; rfl
  have key : (BitVec.ofInt 64 n &&& BitVec.ofInt 64 c).toNat = (n % ((2 ^ 64 : Nat) : Int)).toNat % 2 ^ m := by
    rw [BitVec.toNat_and, BitVec.toNat_ofInt, h127, Nat.and_two_pow_sub_one_eq_mod]
  show Go.IntKind.i64.wrap ((BitVec.ofInt 64 n &&& BitVec.ofInt 64 c).toNat : Nat) = _
  rw [key, Go.IntKind.wrap_i64]
  have h3 : ((((n % ((2 ^ 64 : Nat) : Int)).toNat % 2 ^ m : Nat)) : Int) = n % ((2 ^ m : Nat) : Int) := by
    rw [Int.natCast_emod, Int.toNat_of_nonneg (Int.emod_nonneg _ (by decide))]
    refine Int.emod_emod_of_dvd n ?_
    exact Int.natCast_dvd_natCast.2 (Nat.pow_dvd_pow 2 (by omega))
  rw [h3]
  have h4 := Int.emod_nonneg n (b := ((2 ^ m : Nat) : Int)) (by omega)
  have h5 := Int.emod_lt_of_pos n (b := ((2 ^ m : Nat) : Int)) (by omega)
  omega
end Go.Proofs.YticnmogeknlmeaaGreatDoor.B
