/- Helper: a logbook on its device, with what was noted. No condition. -/
import Derived.Test.YteilmbhnbmmcjaaLn
namespace Go.Proofs.Yteilmbhnbmmcjaa.B
open Go.RowKit Go.Proofs.YteilmbhnbmmcjaaW.PrintWords Go.Proofs.Yteilmbhnbmmcjaa.Later
set_option maxRecDepth 100000
set_option maxHeartbeats 800000
def ct (c : List Nt) : ByteArray := bs (ntsB c)
theorem ntsB_len (c : List Nt) : (ntsB c).length = szL ntSz c := by
  unfold ntsB szL
  rw [List.length_flatMap]
  rfl
theorem ntsB_snoc (c : List Nt) (x : Nt) : ntsB (c ++ [x]) = ntsB c ++ x.bytes := by simp [ntsB]
/-- All that was noted, one by one. -/
structure Noted (l : List Nt) : Prop where
  ok : ∀ x ∈ l, x.ok
  num : ∀ i, i < l.length → (ntA l i).n = i + 1
  few : l.length ≤ 60
/-- The device has what was noted. -/
def DevOf (sl : Bool) (w : World) (a : Nat) (l : List Nt) : Prop :=
  ∃ pg many, PgIn 7 pg ∧ PgOk ct pg (bk ntSz l) (bs (numL l.length ++ numL (bk ntSz l).page)) ∧ MdAt w a (mkM (LT 4 7 pg sl) none many)
def BookOf (w : World) (a g : Nat) (l : List Nt) : Prop := Blk w g (bookC a 4 64 l.length (ntsB (bk ntSz l).cur) (bk ntSz l).page) 90
theorem bk_page_in (b : Bk Nt) : 1 ≤ b.page ∧ b.page ≤ 6 := by unfold Bk.page; omega
theorem add_S (l : List Nt) (x : Nt) : newS (ntsB (bk ntSz l).cur) x = ntsB (bk ntSz (l ++ [x])).cur := by
  rw [bk_snoc]
  unfold newS Bk.add
  rw [ntsB_len]
  by_cases h : szL ntSz (bk ntSz l).cur + x.bytes.length ≤ 64
  · rw [if_pos h, if_pos (show szL ntSz (bk ntSz l).cur + ntSz x ≤ 64 from h), ntsB_snoc]
  · rw [if_neg h, if_neg (show ¬ szL ntSz (bk ntSz l).cur + ntSz x ≤ 64 from h)]
    simp [ntsB]
theorem add_P (l : List Nt) (x : Nt) : newP (ntsB (bk ntSz l).cur) x (bk ntSz l).page = (bk ntSz (l ++ [x])).page := by
  rw [bk_snoc]
  unfold newP Bk.add
  rw [ntsB_len]
  by_cases h : szL ntSz (bk ntSz l).cur + x.bytes.length ≤ 64
  · rw [if_pos h, if_pos (show szL ntSz (bk ntSz l).cur + ntSz x ≤ 64 from h)]
    rfl
  · rw [if_neg h, if_neg (show ¬ szL ntSz (bk ntSz l).cur + ntSz x ≤ 64 from h)]
    unfold Bk.page Bk.no
    simp
theorem upF_upP (pg : Int → Option ByteArray) (p : Int) (v : Option ByteArray) : upF pg p v = upP pg p v := rfl
theorem cur_le {l : List Nt} (h : Noted l) : (ntsB (bk ntSz l).cur).length ≤ 64 := by
  rw [ntsB_len]
  exact bk_le ntSz l (fun x hx => nt_bytes_le x (h.ok x hx))
theorem Noted.snoc {l : List Nt} (h : Noted l) (k : Nat) (t : List UInt8) (hk : k ≤ 255) (ht : t.length ≤ 40) (hf : l.length < 60) : Noted (l ++ [⟨l.length + 1, k, t⟩]) := by
  refine ⟨fun x hx => ?_, fun i hi => ?_, by simp; omega⟩
  · rcases List.mem_append.1 hx with hx | hx
    · exact h.ok x hx
    · obtain rfl := List.mem_singleton.1 hx
      exact ⟨by simp; omega, hk, ht⟩
  · simp at hi
    by_cases e : i < l.length
    · have := h.num i e
      simpa [ntA, List.getD_eq_getElem?_getD, List.getElem?_append_left e] using this
    · obtain rfl : i = l.length := by omega
      simp [ntA, List.getD_eq_getElem?_getD]
theorem noted_add (l : List Nt) (h : Noted l) (a g k : Nat) (t : List UInt8) (hk : k ≤ 255) (ht : t.length ≤ 40) (w : World) (hD : DevOf false w a l) (hb : BookOf w a g l) :
    Calls Try.prog 18 #[.pointer (some ⟨g, 0, none⟩), .int .i64 k, .string (bs t)] w fun e w' => e = .returned (.tuple #[.int .i64 ((l.length + 1 : Nat) : Int), .int .i64 0]) ∧ DevOf false w' a (l ++ [⟨l.length + 1, k, t⟩]) ∧ BookOf w' a g (l ++ [⟨l.length + 1, k, t⟩]) ∧ Mut (two a g) w w' := by
  obtain ⟨pg, many, h1, h2, h3⟩ := hD
  have hf := h.few
  refine (add_any false pg h1 many a g l.length (bk ntSz l).page k (by omega) (bk_page_in _) (ntsB (bk ntSz l).cur) t (cur_le h) hk ht w h3 hb).mono ?_
  rintro e w' ⟨rfl, k1, k2, k3⟩
  rw [add_S, add_P] at k1 k2
  refine ⟨rfl, ⟨_, 2, ?_, ?_, k1⟩, ?_, k3⟩
  · have hp := bk_page_in (bk ntSz (l ++ [⟨l.length + 1, k, t⟩]))
    exact (h1.up (by omega) (by omega) _).up (by omega) (by omega) _
  · have := PgOk.add (sz := ntSz) ct h2 (h' := bs (numL (l.length + 1) ++ numL (bk ntSz (l ++ [⟨l.length + 1, k, t⟩])).page)) ⟨l.length + 1, k, t⟩
    rw [← bk_snoc] at this
    rw [List.length_append, List.length_singleton]
    exact this
  · unfold BookOf
    rw [List.length_append, List.length_singleton]
    exact k2
theorem noted_add_sealed (l : List Nt) (h : Noted l) (a g k : Nat) (t : List UInt8) (hk : k ≤ 255) (ht : t.length ≤ 40) (w : World) (hD : DevOf true w a l) (hb : BookOf w a g l) :
    Calls Try.prog 18 #[.pointer (some ⟨g, 0, none⟩), .int .i64 k, .string (bs t)] w fun e w' => e = .returned (.tuple #[.int .i64 0, .int .i64 170]) ∧ DevOf true w' a l ∧ BookOf w' a g l ∧ Mut (two a g) w w' := by
  obtain ⟨pg, many, h1, h2, h3⟩ := hD
  have hf := h.few
  refine (add_any true pg h1 many a g l.length (bk ntSz l).page k (by omega) (bk_page_in _) (ntsB (bk ntSz l).cur) t (cur_le h) hk ht w h3 hb).mono ?_
  rintro e w' ⟨rfl, k1, k2, k3⟩
  exact ⟨rfl, ⟨pg, 0, h1, h2, k1⟩, k2, k3⟩
theorem gotS_pgOf (c : List Nt) : gotS (pgOf ct (some c)) = bs (ntsB c) := by
  cases c with
  | nil => rfl
  | cons x c => rfl
theorem page_LT (pg : Int → Option ByteArray) (sl : Bool) (p : Int) : page? (LT 4 7 pg sl) 4 p = pg p := by simp [page?, LT]
theorem noted_open (sl : Bool) (l : List Nt) (h : Noted l) (a : Nat) (w : World) (hD : DevOf sl w a l) :
    Calls Try.prog 13 #[dv a, .int .i64 4, .int .i64 64] w fun e w' => ∃ g, e = .returned (.tuple #[.pointer (some ⟨g, 0, none⟩), .int .i64 0]) ∧ w.heap.size ≤ g ∧ BookOf w' a g l ∧ Below w.heap.size w w' := by
  obtain ⟨pg, many, h1, h2, h3⟩ := hD
  have hf := h.few
  have hp := bk_page_in (bk ntSz l)
  have h0 := h2.2 0 (by omega)
  refine (open_ok a (LT 4 7 pg sl) many l.length (bk ntSz l).page (by omega) hp.1 hp.2 (pgOf ct (some (bk ntSz l).cur)) (by rw [page_LT]; exact h2.1) (by rw [page_LT]; simpa [Bk.page] using h0) w h3).mono ?_
  rintro e w' ⟨g, rfl, hg, hb, hB⟩
  rw [gotS_pgOf] at hb
  exact ⟨g, rfl, hg, hb, hB⟩
theorem six {α : Type} (L : List (List α)) : (List.range 6).flatMap (fun i => (L[5 - i]?).getD []) = (L.take 6).reverse.flatten := by
  have hr : List.range 6 = [0, 1, 2, 3, 4, 5] := rfl
  rw [hr]
  match L with
  | [] => rfl
  | [a] => simp
  | [a, b] => simp
  | [a, b, c] => simp
  | [a, b, c, d] => simp
  | [a, b, c, d, e] => simp
  | a :: b :: c :: d :: e :: f :: r => simp
def chsOf (l : List Nt) : Nat → List Nt := fun i => (((bk ntSz l).cur :: (bk ntSz l).done)[5 - i]?).getD []
theorem chs_kept (l : List Nt) : (List.range 6).flatMap (chsOf l) = (bk ntSz l).kept 6 := six _
theorem chs_mem (l : List Nt) (i : Nat) (x : Nt) (hx : x ∈ chsOf l i) : x ∈ l := by
  unfold chsOf at hx
  cases h : ((bk ntSz l).cur :: (bk ntSz l).done)[5 - i]? with
  | none => rw [h] at hx; simp at hx
  | some c =>
    rw [h] at hx
    have hc := List.mem_of_getElem? h
    rcases List.mem_cons.1 hc with rfl | hc
    · exact bk_mem ntSz l x hx
    · exact bk_mem' ntSz l c hc x hx
theorem chs_few (l : List Nt) (i : Nat) (hf : l.length ≤ 60) : (chsOf l i).length ≤ 1000 := by
  unfold chsOf
  cases h : ((bk ntSz l).cur :: (bk ntSz l).done)[5 - i]? with
  | none => simp
  | some c =>
    have hc := List.mem_of_getElem? h
    have := bk_all ntSz l
    have hm : c ∈ ((bk ntSz l).cur :: (bk ntSz l).done).reverse := List.mem_reverse.2 hc
    obtain ⟨s, t, e⟩ := List.append_of_mem hm
    rw [e] at this
    have hl := congrArg List.length this
    simp at hl ⊢
    omega
theorem noted_hold (sl : Bool) (l : List Nt) (h : Noted l) (pg : Int → Option ByteArray) (many : Int) (h2 : PgOk ct pg (bk ntSz l) (bs (numL l.length ++ numL (bk ntSz l).page))) : PgHold (fun p => page? (mkM (LT 4 7 pg sl) none many).see 4 p) (bk ntSz l).page (chsOf l) := by
  intro i hi
  refine ⟨?_, fun x hx => h.ok x (chs_mem l i x hx), chs_few l i h.few⟩
  have e : page? (mkM (LT 4 7 pg sl) none many).see 4 = pg := by funext p; exact page_LT pg sl p
  have hk := h2.2 (5 - i) (by omega)
  have hn := bk_no_pos (bk ntSz l)
  have ep : ((bk ntSz l).page + i) % 6 + 1 = ((bk ntSz l).no + 5 - (5 - i)) % 6 + 1 := by unfold Bk.page; omega
  show (page? (mkM (LT 4 7 pg sl) none many).see 4 _ = none ∧ _) ∨ page? (mkM (LT 4 7 pg sl) none many).see 4 _ = _
  rw [e, ep, hk]
  unfold chsOf
  cases ((bk ntSz l).cur :: (bk ntSz l).done)[5 - i]? with
  | none => left; exact ⟨rfl, rfl⟩
  | some c =>
    cases c with
    | nil => left; exact ⟨rfl, rfl⟩
    | cons x c => right; rfl
theorem noted_all (sl : Bool) (l : List Nt) (h : Noted l) (a g : Nat) (w : World) (hD : DevOf sl w a l) (hb : BookOf w a g l) :
    Calls Try.prog 19 #[.pointer (some ⟨g, 0, none⟩)] w fun e w' => (∃ v, e = .returned (.tuple #[v, .int .i64 0]) ∧ ntK.R 45 w' w.heap.size (fun _ => True) v ((bk ntSz l).kept 6)) ∧ Below w.heap.size w w' := by
  obtain ⟨pg, many, h1, h2, h3⟩ := hD
  rw [← chs_kept]
  exact all_ok _ a g _ _ _ (bk_page_in _) (chsOf l) (noted_hold sl l h pg many h2) w h3 hb
theorem noted_note (sl : Bool) (l : List Nt) (h : Noted l) (a g : Nat) (n : Int) (w : World) (hD : DevOf sl w a l) (hb : BookOf w a g l) :
    Calls Try.prog 22 #[.pointer (some ⟨g, 0, none⟩), .int .i64 n] w fun e w' => e = .returned (.tuple #[(noteV ((bk ntSz l).kept 6) l.length n).1, .int .i64 (noteV ((bk ntSz l).kept 6) l.length n).2]) ∧ Below w.heap.size w w' := by
  obtain ⟨pg, many, h1, h2, h3⟩ := hD
  have hf := h.few
  obtain ⟨k, hk, e⟩ := kept_drop ntSz l 6
  exact note_ok _ a g _ _ _ (bk_page_in _) (chsOf l) (noted_hold sl l h pg many h2) n _ (chs_kept l).symm (by rw [e]; simp; omega) w h3 hb
theorem DevOf.below {sl : Bool} {w w' : World} {a : Nat} {l : List Nt} (h : DevOf sl w a l) (hb : Below w.heap.size w w') : DevOf sl w' a l := by
  obtain ⟨pg, many, h1, h2, h3⟩ := h
  exact ⟨pg, many, h1, h2, h3.below hb⟩
theorem DevOf.lt {sl : Bool} {w : World} {a : Nat} {l : List Nt} (h : DevOf sl w a l) : a < w.heap.size := by
  obtain ⟨pg, many, h1, h2, np, oo, n, hb, _⟩ := h
  exact hb.lt
theorem noted_make (a : Nat) (w : World) (hM : MdAt w a (mkM T0 none 0)) : Calls Try.prog 12 #[dv a, .int .i64 4] w fun e w' => e = .returned (.int .i64 0) ∧ DevOf false w' a [] ∧ Mut (only a) w w' := by
  refine (make_ok a w hM).mono ?_
  rintro e w' ⟨rfl, h1, h2⟩
  refine ⟨rfl, ⟨_, 2, noPg.up (by omega) (by omega) _, ?_, h1⟩, h2⟩
  exact PgOk.nil ct _ _ (by simp [upP]; rfl) (fun p hp => by simp [upP, hp, noPages])
theorem noted_nil : Noted [] := ⟨fun x h => (by cases h), fun i h => (by cases h), (by simp)⟩
theorem disk_any (w : World) : Calls Try.prog 11 #[] w fun e w' => ∃ a, e = .returned (.pointer (some ⟨a, 0, none⟩)) ∧ w.heap.size ≤ a ∧ MdAt w' a (mkM T0 none 0) ∧ Below w.heap.size w w' := by
  go_enter Try.func11, Try.ntmps11
  go_wp2_with fail
  refine (mnew_any 20 40 0 0 64 _).mono ?_
  rintro e w1 ⟨a, rfl, ha, hM, hB⟩
  go_wp2
  go_ret
  exact ⟨a, rfl, ha, hM, hB⟩
end Go.Proofs.Yteilmbhnbmmcjaa.B
