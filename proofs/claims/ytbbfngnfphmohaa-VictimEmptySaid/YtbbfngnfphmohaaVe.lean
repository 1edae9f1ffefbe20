/- Helper: the statement on empty blocks, as plain numbers. No condition. -/
import Derived.Test.YtbbfngnfphmohaaVd
import Derived.Test.YtbbfngnfphmohaaFq
namespace Go.Proofs.Ytbbfngnfphmohaa.Fl
open Go.RowKit Go.Proofs.YtbbfngnfphmohaaW.PrintWords Go.Proofs.Ytbbfngnfphmohaa.Later
/-- A block as the statement lays it. -/
def laidS (y : List Seen) (i : Nat) : Seen := ⟨i, bits .and .i64 (sn y i).live 7, 8, bits .and .i64 (sn y i).age 65535⟩
def laidL (y : List Seen) (k : Nat) : List Seen := (List.range k).map (laidS y)
theorem laidL_succ (y : List Seen) (k : Nat) : laidL y (k + 1) = laidL y k ++ [laidS y k] := by unfold laidL; rw [List.range_succ, List.map_append]; rfl
theorem laidL_len (y : List Seen) (k : Nat) : (laidL y k).length = k := by unfold laidL; simp
theorem laidL_sn (y : List Seen) (k i : Nat) (h : i < k) : sn (laidL y k) i = laidS y i := by
  unfold sn laidL
  rw [List.getD_eq_getElem?_getD, List.getElem?_map, List.getElem?_range h]
  rfl
theorem laid_cand (y : List Seen) (k i : Nat) (h : i < k) : (bits .and .i64 (sn y i).live 7 = 0 ∧ cand (laidL y k) i = some inf) ∨ (bits .and .i64 (sn y i).live 7 ≠ 0 ∧ ∃ v, cand (laidL y k) i = some v ∧ v < inf) := by
  unfold cand
  rw [laidL_sn y k i h]
  obtain ⟨a0, a1⟩ := and_in 3 (by decide) 7 (sn y i).live (by decide)
  obtain ⟨t0, t1⟩ := and_in 16 (by decide) 65535 (sn y i).age (by decide)
  unfold laidS
  simp only
  generalize bits .and .i64 (sn y i).live 7 = x at *
  obtain ⟨x, rfl⟩ := Int.eq_ofNat_of_zero_le a0
  generalize bits .and .i64 (sn y i).age 65535 = t at *
  obtain ⟨t, rfl⟩ := Int.eq_ofNat_of_zero_le t0
  rw [if_pos (by omega)]
  by_cases hx : x = 0
  · subst hx
    exact .inl ⟨rfl, worth_zero (n := 8) (by omega) (by omega) t (by omega)⟩
  · right
    obtain ⟨_, _, _, r, _, _, _, _, hr, _, hnr, he, _⟩ := worth_mid (n := 8) (x := x) (by omega) (by omega) (by omega) t (by omega)
    exact ⟨by omega, r, hr, (nrm_fits hnr he).2⟩
theorem inf_nan : nanB inf = false := by decide +kernel
theorem ord_inf {v : Nat} (hv : nanB v = false) (h : v < inf) : 0 < ordB inf v := ord_gt inf_nan hv (by decide) h
theorem ord_not {v : Nat} (hv : nanB v = false) (h : v < inf) : ¬ 0 < ordB v inf := by
  unfold ordB
  rw [rank_pos hv (by unfold inf at h; omega), rank_pos inf_nan (by decide), if_pos (by omega)]
  omega
theorem cand_not_nan {l : List Seen} {i v : Nat} (h : cand l i = some v) : nanB v = false := by
  unfold cand at h
  split at h
  · exact ofO_not_nan h
  · cases h
/-- The choice of such blocks: the first empty one, if there is one; some one, if there are blocks. -/
theorem laid_cho (y : List Seen) (n : Nat) : ∀ k, k ≤ n → (0 < k → 0 ≤ cho (laidL y n) k) ∧ (0 ≤ emp (laidL y n) k → cho (laidL y n) k = emp (laidL y n) k ∧ cand (laidL y n) (cho (laidL y n) k).toNat = some inf) ∧
    (emp (laidL y n) k < 0 → ∀ v, 0 ≤ cho (laidL y n) k → cand (laidL y n) (cho (laidL y n) k).toNat = some v → v < inf) ∧ emp (laidL y n) k < k
  | 0, _ => ⟨fun h => by omega, fun h => by simp [emp] at h, fun _ v h => by simp [cho] at h, by simp [emp]⟩
  | k + 1, hk => by
    obtain ⟨i1, i2, i3, i4⟩ := laid_cho y n k (by omega)
    have hin := cho_in (laidL y n) k
    have hz : (sn (laidL y n) k).live = bits .and .i64 (sn y k).live 7 := by rw [laidL_sn y n k (by omega)]; rfl
    rcases laid_cand y n k (by omega) with ⟨hx, hc⟩ | ⟨hx, v, hc, hv⟩
    · -- an empty one
      by_cases he : 0 ≤ emp (laidL y n) k
      · obtain ⟨e1, e2⟩ := i2 he
        have hcho : cho (laidL y n) (k + 1) = cho (laidL y n) k := by
          rw [cho_next hc (by omega) e2, if_neg (by rw [ord_same]; omega)]
        have hemp : emp (laidL y n) (k + 1) = emp (laidL y n) k := by rw [emp_succ, if_neg (by omega)]
        rw [hcho, hemp]
        exact ⟨fun _ => by omega, fun _ => ⟨e1, e2⟩, fun h => by omega, by omega⟩
      · have hcho : cho (laidL y n) (k + 1) = k := by
          by_cases h0 : cho (laidL y n) k < 0
          · exact cho_first hc h0
          · obtain ⟨u, hu⟩ := cho_cand (laidL y n) k (by omega)
            rw [cho_next hc h0 hu, if_pos (ord_inf (cand_not_nan hu) (i3 (by omega) u (by omega) hu))]
        have hemp : emp (laidL y n) (k + 1) = k := by rw [emp_succ, if_pos ⟨by omega, by rw [hz]; exact hx⟩]
        rw [hcho, hemp]
        exact ⟨fun _ => by omega, fun _ => ⟨rfl, by rw [Int.toNat_natCast]; exact hc⟩, fun h => by omega, by omega⟩
    · have hemp : emp (laidL y n) (k + 1) = emp (laidL y n) k := by rw [emp_succ, if_neg (fun h => hx (by rw [← hz]; exact h.2))]
      rw [hemp]
      by_cases he : 0 ≤ emp (laidL y n) k
      · obtain ⟨e1, e2⟩ := i2 he
        have hcho : cho (laidL y n) (k + 1) = cho (laidL y n) k := by
          rw [cho_next hc (by omega) e2, if_neg (ord_not (cand_not_nan hc) hv)]
        rw [hcho]
        exact ⟨fun _ => by omega, fun _ => ⟨e1, e2⟩, fun h => by omega, by omega⟩
      · refine ⟨fun _ => ?_, fun h => by omega, fun _ u h0 hu => ?_, by omega⟩
        · rw [cho_succ]
          split
          · omega
          · rename_i hb
            by_cases h0 : cho (laidL y n) k < 0
            · exfalso
              apply hb
              unfold beats
              rw [hc]
              simp only [decide_eq_true h0, Bool.true_or]
            · omega
        · rw [cho_succ] at h0 hu
          split at hu
          · rw [Int.toNat_natCast] at hu
            rw [hc] at hu
            cases hu
            exact hv
          · rename_i hb
            rw [if_neg hb] at h0
            exact i3 (by omega) u h0 hu
end Go.Proofs.Ytbbfngnfphmohaa.Fl
