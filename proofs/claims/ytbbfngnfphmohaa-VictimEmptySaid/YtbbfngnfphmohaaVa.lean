/- Helper: the choice of a block, as plain functions on lists. No condition. -/
import Derived.Test.YtbbfngnfphmohaaFe
namespace Go.Proofs.Ytbbfngnfphmohaa.Fl
open Go.RowKit Go.Proofs.YtbbfngnfphmohaaW.PrintWords
/-- What is seen of a block. -/
structure Seen where
  blk : Int
  live : Int
  pages : Int
  age : Int
instance : Inhabited Seen := ⟨⟨0, 0, 0, 0⟩⟩
def ks : Kd Seen := Kd.iso (Kd.pair (Kd.int .i64) (Kd.pair (Kd.int .i64) (Kd.pair (Kd.int .i64) (Kd.int .i64)))) (fun x => (x.blk, x.live, x.pages, x.age))
def sn (l : List Seen) (i : Nat) : Seen := l.getD i default
theorem ks_open {w : World} {x : Seen} {cs : List Value} (h : ks.K w x cs) : cs = [.int .i64 x.blk, .int .i64 x.live, .int .i64 x.pages, .int .i64 x.age] := by
  obtain ⟨_, _, rfl, rfl, _, _, rfl, rfl, _, _, rfl, rfl, rfl⟩ := h
  rfl
theorem ks_mkM (w : World) (base : Nat) (ok : Nat → Prop) (x : Seen) : ks.M w base ok x [.int .i64 x.blk, .int .i64 x.live, .int .i64 x.pages, .int .i64 x.age] :=
  ⟨[.int .i64 x.blk], [.int .i64 x.live, .int .i64 x.pages, .int .i64 x.age], rfl, rfl, [.int .i64 x.live], [.int .i64 x.pages, .int .i64 x.age], rfl, rfl, [.int .i64 x.pages], [.int .i64 x.age], rfl, rfl, rfl⟩
theorem at_ks {w : World} {A : Option Addr} {n : Nat} {xs : List Seen} (h : Kd.C ks w A n xs) (i : Int) (h0 : 0 ≤ i) (h1 : i < n) :
    ∃ ad, A = some ad ∧ w.cell? (ad.add (i.toNat * 4)) = some (.int .i64 (sn xs i.toNat).blk) ∧ w.cell? ⟨(ad.add (i.toNat * 4)).block, (ad.add (i.toNat * 4)).off + 1, none⟩ = some (.int .i64 (sn xs i.toNat).live) ∧
      w.cell? ⟨(ad.add (i.toNat * 4)).block, (ad.add (i.toNat * 4)).off + 2, none⟩ = some (.int .i64 (sn xs i.toNat).pages) ∧ w.cell? ⟨(ad.add (i.toNat * 4)).block, (ad.add (i.toNat * 4)).off + 3, none⟩ = some (.int .i64 (sn xs i.toNat).age) := by
  obtain ⟨ad, c, e, _, hK, hc0⟩ := Kd.C_get h default i h0 h1
  have hc : ∀ j u, c[j]? = some u → w.cell? (ad.add (i.toNat * 4 + j)) = some u := hc0
  obtain rfl := ks_open hK
  exact ⟨ad, e, hc 0 _ rfl, by rw [← add_field _ _ 1 (by omega)]; exact hc 1 _ rfl, by rw [← add_field _ _ 2 (by omega)]; exact hc 2 _ rfl, by rw [← add_field _ _ 3 (by omega)]; exact hc 3 _ rfl⟩
theorem ofO_not_nan {live pages age : Int} {v : Nat} (h : ofO live pages age = some v) : nanB v = false := by
  unfold ofO at h
  split at h
  · cases h
  · exact ar_not_nan' h
where
  ar_not_nan' {op : BinOp} {x y : Option Nat} {r : Nat} (h : ar op x y = some r) : nanB r = false := by
    cases x with
    | none => cases h
    | some a =>
      cases y with
      | none => cases h
      | some b => exact floatBits_not_nan op a b r h
/-- What a block is worth, if it may be chosen. -/
def cand (l : List Seen) (i : Nat) : Option Nat := if (sn l i).live < (sn l i).pages then ofO (sn l i).live (sn l i).pages (sn l i).age else none
/-- Is it worth more than another one? -/
def beats (v : Option Nat) (b : Int) (u : Option Nat) : Bool :=
  match v with
  | none => false
  | some v => decide (b < 0) || match u with | none => false | some u => decide (0 < ordB v u)
/-- The place of the block that is worth most, of the first ones. -/
def cho (l : List Seen) : Nat → Int
  | 0 => -1
  | i + 1 => if beats (cand l i) (cho l i) (cand l (cho l i).toNat) = true then (i : Int) else cho l i
theorem cho_succ (l : List Seen) (i : Nat) : cho l (i + 1) = if beats (cand l i) (cho l i) (cand l (cho l i).toNat) = true then (i : Int) else cho l i := rfl
theorem cho_in (l : List Seen) : ∀ i, -1 ≤ cho l i ∧ cho l i < i
  | 0 => by simp [cho]
  | i + 1 => by
    have := cho_in l i
    rw [cho_succ]
    split <;> omega
theorem cho_cand (l : List Seen) : ∀ i, 0 ≤ cho l i → ∃ v, cand l (cho l i).toNat = some v
  | 0, h => by simp [cho] at h
  | i + 1, h => by
    rw [cho_succ] at h ⊢
    split at h
    · rename_i hb
      rw [if_pos hb, Int.toNat_natCast]
      cases hc : cand l i with
      | none => rw [hc] at hb; cases hb
      | some v => exact ⟨v, rfl⟩
    · rename_i hb
      rw [if_neg hb]
      exact cho_cand l i h
/-- The first block of which no page lives. -/
def emp (l : List Seen) : Nat → Int
  | 0 => -1
  | i + 1 => if emp l i < 0 ∧ (sn l i).live = 0 then (i : Int) else emp l i
/-- What the lists of numbers and places have in common with the choice. -/
def Runs (l : List Seen) (k : Nat) (fs : List Nat) (ats : List Int) : Prop :=
  fs.length = ats.length ∧ fs.length ≤ k ∧ ((bst fs fs.length = -1 ∧ cho l k = -1) ∨ (0 ≤ bst fs fs.length ∧ ats.getD (bst fs fs.length).toNat 0 = cho l k ∧ cand l (cho l k).toNat = some (at0 fs (bst fs fs.length).toNat) ∧ 0 ≤ cho l k))
theorem at0_app (fs : List Nat) (r : Nat) (i : Nat) (h : i < fs.length) : at0 (fs ++ [r]) i = at0 fs i := by
  unfold at0
  rw [List.getD_eq_getElem?_getD, List.getD_eq_getElem?_getD, List.getElem?_append_left h]
theorem at0_last (fs : List Nat) (r : Nat) : at0 (fs ++ [r]) fs.length = r := by
  unfold at0
  rw [List.getD_eq_getElem?_getD, List.getElem?_append_right (Nat.le_refl _)]
  simp
theorem bst_app (fs : List Nat) (r : Nat) : ∀ i, i ≤ fs.length → bst (fs ++ [r]) i = bst fs i
  | 0, _ => rfl
  | i + 1, h => by
    have ih := bst_app fs r i (by omega)
    have hb := bst_in fs i
    rw [bst_succ, bst_succ, ih]
    have : better (fs ++ [r]) (bst fs i) i = better fs (bst fs i) i := by
      unfold better
      rw [at0_app fs r i (by omega)]
      by_cases h0 : bst fs i < 0
      · rw [decide_eq_true h0]; simp
      · rw [at0_app fs r (bst fs i).toNat (by omega)]
    rw [this]
theorem runs_zero (l : List Seen) : Runs l 0 [] [] := ⟨rfl, Nat.le_refl _, .inl ⟨rfl, rfl⟩⟩
theorem runs_skip {l : List Seen} {k : Nat} {fs : List Nat} {ats : List Int} (h : Runs l k fs ats) (hk : ¬ (sn l k).live < (sn l k).pages) : Runs l (k + 1) fs ats := by
  obtain ⟨h1, h2, h3⟩ := h
  have : cho l (k + 1) = cho l k := by
    rw [cho_succ]
    unfold cand
    rw [if_neg hk]
    rfl
  exact ⟨h1, by omega, by rw [this]; exact h3⟩
theorem runs_take {l : List Seen} {k : Nat} {fs : List Nat} {ats : List Int} {r : Nat} (h : Runs l k fs ats) (hk : (sn l k).live < (sn l k).pages) (hr : Rf (ofO (sn l k).live (sn l k).pages (sn l k).age) r) : Runs l (k + 1) (fs ++ [r]) (ats ++ [(k : Int)]) := by
  obtain ⟨h1, h2, h3⟩ := h
  have hc : cand l k = ofO (sn l k).live (sn l k).pages (sn l k).age := by unfold cand; rw [if_pos hk]
  have hl : (fs ++ [r]).length = fs.length + 1 := by simp
  have hb := bst_in fs fs.length
  have hbt : better (fs ++ [r]) (bst fs fs.length) fs.length = beats (cand l k) (cho l k) (cand l (cho l k).toNat) := by
    unfold better beats
    rw [at0_last, hc]
    cases hv : ofO (sn l k).live (sn l k).pages (sn l k).age with
    | none =>
      rw [hv] at hr
      have hr' : nanB r = true := hr
      rw [hr']; rfl
    | some v =>
      rw [hv] at hr
      obtain rfl : r = v := hr
      rw [ofO_not_nan hv]
      rcases h3 with ⟨e1, e2⟩ | ⟨e1, e2, e3, e4⟩
      · rw [e1, e2]; rfl
      · rw [at0_app fs r _ (by omega), e3, decide_eq_false (by omega : ¬ bst fs fs.length < 0), decide_eq_false (by omega : ¬ cho l k < 0)]
        rfl
  refine ⟨by simp [h1], by omega, ?_⟩
  rw [hl, bst_succ, cho_succ, bst_app fs r fs.length (Nat.le_refl _), hbt]
  cases hbb : beats (cand l k) (cho l k) (cand l (cho l k).toNat) with
  | true =>
    right
    simp only [if_true, Int.toNat_natCast]
    refine ⟨by omega, ?_, ?_, by omega⟩
    · rw [List.getD_eq_getElem?_getD, List.getElem?_append_right (by omega), h1]; simp
    · rw [at0_last]
      cases hv : cand l k with
      | none => rw [hv] at hbb; cases hbb
      | some v =>
        rw [hc] at hv
        rw [hv] at hr
        rw [show r = v from hr]
  | false =>
    simp only [Bool.false_eq_true, if_false]
    rcases h3 with ⟨e1, e2⟩ | ⟨e1, e2, e3, e4⟩
    · exact .inl ⟨e1, e2⟩
    · right
      refine ⟨e1, ?_, ?_, e4⟩
      · rw [List.getD_eq_getElem?_getD, List.getElem?_append_left (by omega), ← List.getD_eq_getElem?_getD]; exact e2
      · rw [at0_app fs r _ (by omega)]; exact e3
end Go.Proofs.Ytbbfngnfphmohaa.Fl
