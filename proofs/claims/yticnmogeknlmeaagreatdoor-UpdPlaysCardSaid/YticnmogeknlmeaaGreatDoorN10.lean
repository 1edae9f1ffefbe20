/- Helper: manifests as lines, plainly: lines, counts, digits to the base 16. lines, walked: of the program, and of the document. counts, walked: of the program, and of the document. counts, walked: of the document. No condition. -/
import Derived.Test.YticnmogeknlmeaaGreatDoorN01
import Derived.Test.YticnmogeknlmeaaGreatDoorN03
import Derived.Deep.LoopGhost
import Derived.Laws.RangeAny
import Derived.Lib.OthersKept
namespace Go.Proofs.YticnmogeknlmeaaGreatDoor.B
open Go.RowKit Go.Proofs.YticnmogeknlmeaaGreatDoorW.PrintWords
/-- The parts of bytes between those that are 10. -/
def linesL : List UInt8 → List (List UInt8)
  | [] => [[]]
  | c :: l => if c = 10 then [] :: linesL l else (match linesL l with
    | [] => [[c]]
    | h :: t => (c :: h) :: t)
def glue (p : List UInt8) : List (List UInt8) → List (List UInt8)
  | [] => [p]
  | h :: t => (p ++ h) :: t
theorem linesL_ne : ∀ l, linesL l ≠ []
  | [] => by simp [linesL]
  | c :: l => by
    rw [linesL]
    split
    · simp
    · split <;> simp
theorem linesL_cons (c : UInt8) (l : List UInt8) (h : c ≠ 10) : linesL (c :: l) = glue [c] (linesL l) := by
  rw [linesL, if_neg h]
  cases e : linesL l with
  | nil => exact absurd e (linesL_ne l)
  | cons a b => rfl
theorem glue_glue (p q : List UInt8) (l : List (List UInt8)) (h : l ≠ []) : glue p (glue q l) = glue (p ++ q) l := by
  cases l with
  | nil => exact absurd rfl h
  | cons a b => simp [glue]
theorem glue_nil (l : List (List UInt8)) (h : l ≠ []) : glue [] l = l := by
  cases l with
  | nil => exact absurd rfl h
  | cons a b => rfl
theorem index_count (l : List UInt8) : Lib.index l [10] = -1 → l.count 10 = 0 := by
  rw [Lib.index_one]
  induction l with
  | nil => intro _; rfl
  | cons b l ih =>
    intro h
    have hge := Lib.indexByte_ge l 10
    rw [Lib.indexByte] at h
    by_cases hb : (b == 10) = true
    · rw [if_pos hb] at h; omega
    · rw [if_neg hb] at h
      by_cases h1 : (Lib.indexByte l 10 == -1) = true
      · rw [List.count_cons, ih (by simpa using h1)]
        simp [hb]
      · rw [if_neg h1] at h
        simp at h1
        omega
theorem splitK_lines : ∀ l : List UInt8, Lib.splitK [10] 0 (l.count 10) l = linesL l
  | [] => rfl
  | c :: l => by
    have ih := splitK_lines l
    by_cases hc : c = 10
    · subst hc
      rw [List.count_cons_self, Lib.splitK, linesL, if_pos rfl, ← ih]
      have e : Lib.index (10 :: l) [10] = 0 := by rw [Lib.index_one, Lib.indexByte, if_pos (by decide)]
      rw [e]
      simp
    · rw [linesL_cons c l hc, ← ih, List.count_cons_of_ne (by simpa using hc)]
      cases hk : l.count 10 with
      | zero => rfl
      | succ k =>
        have hi : Lib.index l [10] ≠ -1 := fun e => by have := index_count l e; omega
        have hge : 0 ≤ Lib.index l [10] := by
          have := Lib.indexByte_ge l 10
          rw [Lib.index_one] at hi ⊢
          omega
        have e : Lib.index (c :: l) [10] = Lib.index l [10] + 1 := by
          rw [Lib.index_one, Lib.indexByte, if_neg (by simpa using hc), if_neg (by rw [Lib.index_one] at hi; simpa using hi), Lib.index_one]
        obtain ⟨i, hie⟩ := Int.eq_ofNat_of_zero_le hge
        rw [Lib.splitK, Lib.splitK, e, hie]
        have n1 : ¬ (((i : Int) + 1) == -1) = true := by simp; omega
        have n2 : ¬ (((i : Int)) == -1) = true := by simp
        rw [if_neg n1, if_neg n2]
        have t1 : ((i : Int) + 1).toNat = i + 1 := by omega
        rw [t1]
        simp [glue]
theorem splitB_lines (l : List UInt8) : Lib.splitB ⟨#[10]⟩ 0 (Lib.countB (bs l) ⟨#[10]⟩) (bs l) = (linesL l).map bs := by
  have h := Lib.splitB_data ⟨#[10]⟩ 0 (Lib.countB (bs l) ⟨#[10]⟩) (bs l)
  have hc : Lib.countB (bs l) ⟨#[10]⟩ = l.count 10 := by
    show Lib.count (bs l).data.toList [10] = _
    rw [bs_list, Lib.count_one]
  rw [bs_list, hc] at h
  have h2 := h.trans (splitK_lines l)
  rw [hc, ← h2, List.map_map]
  conv => lhs; rw [← List.map_id (Lib.splitB ⟨#[10]⟩ 0 (l.count 10) (bs l))]
  refine List.map_congr_left fun x _ => ?_
  exact (bs_of x).symm
/-- A count's digits: none, if something else stands there, or too much. -/
def dig (c : UInt8) : Bool := decide (48 ≤ c.toNat) && decide (c.toNat ≤ 57)
def countP : Bool → Nat → List UInt8 → Option Nat
  | _, n, [] => some n
  | first, n, c :: l => if dig c = false ∨ (first = false ∧ n = 0) then none else if 2147483648 ≤ n * 10 + (c.toNat - 48) then none else countP false (n * 10 + (c.toNat - 48)) l
/-- The count that a word says. -/
def countL (l : List UInt8) : Option Nat := if l = [] then none else countP true 0 l
def valN (n : Nat) (l : List UInt8) : Nat := l.foldl (fun n c => n * 10 + (c.toNat - 48)) n
theorem valN_ge : ∀ (l : List UInt8) (n : Nat), n * 10 ^ l.length ≤ valN n l
  | [], n => by simp [valN]
  | c :: l, n => by
    have h := valN_ge l (n * 10 + (c.toNat - 48))
    have e : valN n (c :: l) = valN (n * 10 + (c.toNat - 48)) l := rfl
    rw [e, List.length_cons, Nat.pow_succ]
    refine Nat.le_trans ?_ h
    rw [Nat.mul_comm (10 ^ l.length) 10, ← Nat.mul_assoc]
    exact Nat.mul_le_mul (by omega) (Nat.le_refl _)
theorem countP_val : ∀ (l : List UInt8) (n : Nat), 0 < n → n < 2147483648 → countP false n l = if l.all dig = true ∧ valN n l < 2147483648 then some (valN n l) else none
  | [], n, h, h2 => by simp [countP, valN, h2]
  | c :: l, n, h, h2 => by
    have e : valN n (c :: l) = valN (n * 10 + (c.toNat - 48)) l := rfl
    rw [countP, e, List.all_cons]
    cases hd : dig c
    · simp
    · rw [if_neg (by simp; omega)]
      by_cases hb : 2147483648 ≤ n * 10 + (c.toNat - 48)
      · rw [if_pos hb, if_neg]
        intro ⟨_, hv⟩
        have h3 := valN_ge l (n * 10 + (c.toNat - 48))
        have h4 : n * 10 + (c.toNat - 48) ≤ (n * 10 + (c.toNat - 48)) * 10 ^ l.length := Nat.le_mul_of_pos_right _ (Nat.pow_pos (by decide))
        omega
      · rw [if_neg hb, countP_val l _ (by omega) (by omega)]
        simp
/-- The document's way: the length first, then all digits, then how much it is. -/
def countR (l : List UInt8) : Option Nat := if l = [] ∨ 10 < l.length ∨ (1 < l.length ∧ l.getD 0 0 = 48) then none else if l.all dig = true then (if 2147483648 ≤ valN 0 l then none else some (valN 0 l)) else none
theorem count_same (l : List UInt8) : countR l = countL l := by
  unfold countR countL
  cases l with
  | nil => simp
  | cons c l =>
    have e : valN 0 (c :: l) = valN (c.toNat - 48) l := by show valN (0 * 10 + (c.toNat - 48)) l = _; rw [Nat.zero_mul, Nat.zero_add]
    rw [if_neg (List.cons_ne_nil c l), countP, e, Nat.zero_mul, Nat.zero_add]
    cases hd : dig c
    · rw [if_pos (show false = false ∨ (true = false ∧ 0 = 0) from .inl rfl), List.all_cons, hd, Bool.false_and, if_neg (show ¬ (false = true) by decide)]
      split <;> rfl
    · have hdd : 48 ≤ c.toNat ∧ c.toNat ≤ 57 := by simpa [dig] using hd
      rw [if_neg (show ¬ (true = false ∨ (true = false ∧ 0 = 0)) by decide), if_neg (show ¬ 2147483648 ≤ c.toNat - 48 by omega)]
      by_cases h0 : c.toNat = 48
      · have hc48 : c = 48 := by apply UInt8.toNat_inj.1; rw [h0]; rfl
        cases l with
        | nil =>
          have hz : valN (c.toNat - 48) [] = c.toNat - 48 := rfl
          rw [if_neg (by simp), hz, List.all_cons, hd, h0]
          rfl
        | cons d l =>
          rw [if_pos (by right; right; exact ⟨by simp, by simp [hc48]⟩), h0, countP, if_pos (by right; exact ⟨rfl, rfl⟩)]
      · have hc48 : c ≠ 48 := fun e => h0 (by rw [e]; rfl)
        rw [countP_val l (c.toNat - 48) (by omega) (by omega)]
        have hne : ¬ (1 < (c :: l).length ∧ (c :: l).getD 0 0 = 48) := by simp [hc48]
        by_cases hl : 10 < (c :: l).length
        · rw [if_pos (by right; left; exact hl), if_neg]
          intro ⟨_, hv⟩
          have h3 := valN_ge l (c.toNat - 48)
          have h5 : 10 ^ 10 ≤ 10 ^ l.length := Nat.pow_le_pow_right (by decide) (by simp at hl; omega)
          have h6 : 1 * 10 ^ 10 ≤ (c.toNat - 48) * 10 ^ l.length := Nat.mul_le_mul (by omega) h5
          omega
        · rw [if_neg (by simp only [List.cons_ne_nil, false_or, not_or]; exact ⟨hl, hne⟩), List.all_cons, hd, Bool.true_and]
          by_cases ha : l.all dig = true
          · rw [if_pos ha]
            by_cases hv : 2147483648 ≤ valN (c.toNat - 48) l
            · rw [if_pos hv, if_neg (by omega)]
            · rw [if_neg hv, if_pos ⟨ha, by omega⟩]
          · rw [if_neg ha, if_neg (fun h => ha h.1)]
end Go.Proofs.YticnmogeknlmeaaGreatDoor.B
namespace Go.Proofs.YticnmogeknlmeaaGreatDoor.B
open Go.RowKit Go.Proofs.YticnmogeknlmeaaGreatDoorW.PrintWords
set_option maxRecDepth 100000
set_option maxHeartbeats 1600000
def encS (l : List UInt8) : Value := .string (bs l)
theorem info9 : (Tryz.prog.info? 9).map (fun i => (i.zero, i.size, i.bytes)) = some (some (.string ByteArray.empty), 1, 16) := by kernel_rfl
/-- Texts at the head of a block. -/
def PreS (w : World) (g : Nat) (xs : List (List UInt8)) : Prop := ∃ cur : Array Value, Blk w g cur 9 ∧ ∀ (i : Nat) (h : i < xs.length), cur[i]? = some (encS xs[i])
theorem PreS.cell {w : World} {g : Nat} {xs : List (List UInt8)} (h : PreS w g xs) (i : Nat) (hi : i < xs.length) : w.cell? ⟨g, i, none⟩ = some (encS xs[i]) := by
  obtain ⟨cur, h1, h2⟩ := h
  exact (h1.cell i).trans (h2 i hi)
theorem PreS.below {w w' : World} {g : Nat} {xs : List (List UInt8)} (h : PreS w g xs) (hb : Below w.heap.size w w') : PreS w' g xs := by
  obtain ⟨cur, h1, h2⟩ := h
  exact ⟨cur, h1.below hb, h2⟩
theorem PreS.far {w : World} {g : Nat} {xs : List (List UInt8)} (h : PreS w g xs) {p : Addr} (hp : g ≠ p.block) (v : Value) : PreS (w.setCell p v) g xs := by
  obtain ⟨cur, h1, h2⟩ := h
  exact ⟨cur, h1.far hp v, h2⟩
theorem PreS.lt {w : World} {g : Nat} {xs : List (List UInt8)} (h : PreS w g xs) : g < w.heap.size := by
  obtain ⟨cur, h1, h2⟩ := h
  exact h1.lt
def SomeLines (l : List UInt8) (w : World) (e : Ending) (w' : World) : Prop := ∃ g cap, e = .returned (.slice (some ⟨g, 0, none⟩) (linesL l).length cap) ∧ PreS w' g (linesL l) ∧ w.heap.size ≤ g ∧ Below w.heap.size w w'
theorem split_any (l : List UInt8) (hl : l.length < 4294967281) (w : World) : Calls Tryz.prog 66 #[.string (bs l), .string ⟨#[10]⟩] w (SomeLines l w) := by
  have hc := Lib.hid (Tryz.genSplit_one (bs l) 10 w (by rw [bs_size]; exact hl))
  rw [splitB_lines] at hc
  obtain ⟨n, hn⟩ : ∃ n, n = Lib.countB (bs l) ⟨#[10]⟩ := ⟨_, rfl⟩
  rw [← hn] at hc
  clear hn hl
  go_enter Tryz.func66, Tryz.ntmps66
  go_wp2_with fail
  refine hc.out.mono ?_
  rintro e w1 ⟨rfl, hw⟩
  have Hw := Lib.hid hw
  clear hw
  go_wp2_with fail
  go_ret
  rw [Hw.out]
  refine ⟨w.heap.size, n + 1, rfl, ⟨_, Blk.new w _ 9, fun i hi => ?_⟩, Nat.le_refl _, (Below.refl _ _).alloc (Nat.le_refl _) _⟩
  simp only [Lib.cellsOf, List.getElem?_toArray]
  rw [List.getElem?_append_left (by simpa using hi)]
  simp [hi, encS]
def LinesRel (l : List UInt8) (w : World) (g : Nat) (v f x : Value) (wr : World) : Prop := ∃ (i fr : Nat) (out : List (List UInt8)), i + g = l.length + 1 ∧ x = .int .i64 (i : Int) ∧ f = .int .i64 (fr : Int) ∧ RowE encS 9 wr w.heap.size v out ∧ out.length ≤ i ∧ Below w.heap.size w wr ∧
  ((i ≤ l.length ∧ fr ≤ i ∧ linesL l = out ++ glue ((l.take i).drop fr) (linesL (l.drop i))) ∨ (i = l.length + 1 ∧ out = linesL l))
theorem lines_any (l : List UInt8) (hl : l.length < 4294967281) (w : World) : Calls Tryz.prog 81 #[.string (bs l)] w (SomeLines l w) := by
  have hsz := bs_size l
  go_enter Tryz.func81, Tryz.ntmps81
  go_wp2_with fail
  go_loopg [3, 4, 5] (l.length + 1) (fun g v f x wr => LinesRel l w g v f x wr)
  case atStart => exact ⟨0, 0, [], by omega, rfl, rfl, RowE.lit w w.heap.size [] (Nat.le_refl _) (by simp), Nat.le_refl _, (Below.refl _ _).alloc (Nat.le_refl _) _, .inl ⟨by omega, by omega, by rw [List.take_zero, List.drop_nil, List.drop_zero, glue_nil _ (linesL_ne l)]; rfl⟩⟩
  case round =>
    obtain ⟨i, fr, out, hi, rfl, rfl, hR, hol, hB, hc⟩ := hrel
    have HR := Lib.hid hR
    have HB := Lib.hid hB
    have HC := Lib.hid hc
    clear hR hB hc
    cases gk with
    | zero =>
      obtain ⟨rfl, ho⟩ : i = l.length + 1 ∧ out = linesL l := by rcases HC.out with ⟨h, _⟩ | h; omega; exact h
      subst ho
      rcases HR.out.2 with ⟨_, hn⟩ | ⟨g0, cap, cur, rfl, hb, hh, hn, hcm, hsz2, htk⟩
      · exact absurd (List.eq_nil_of_length_eq_zero hn) (linesL_ne l)
      · have HP := Lib.hid (show PreS wr g0 (linesL l) from ⟨cur, hh, fun i hi => by
          have := (RowE.cell (xs := linesL l) HR.out i hi).1
          rw [← this]; simp [World.cell?, hh]⟩)
        have Hgb := Lib.hid hb
        clear hh htk hsz2 hb
        go_wp2_with fail
        go_ret
        exact ⟨g0, cap, rfl, HP.out, Hgb.out, HB.out⟩
    | succ g =>
      have hil : i ≤ l.length := by omega
      obtain ⟨hfr, hE⟩ : fr ≤ i ∧ linesL l = out ++ glue ((l.take i).drop fr) (linesL (l.drop i)) := by
        rcases HC.out with ⟨_, h⟩ | ⟨h, _⟩
        · exact h
        · omega
      have HE := Lib.hid hE
      have he : (bs l).extract fr i = bs ((l.take i).drop fr) := bs_extract l fr i
      clear hE HC
      by_cases hend : i = l.length
      · subst hend
        have Hfin := Lib.hid (show linesL l = out ++ [(l.take l.length).drop fr] by rw [HE.out, List.drop_length]; simp [linesL, glue])
        obtain ⟨y, hy⟩ : ∃ y, y = (l.take l.length).drop fr := ⟨_, rfl⟩
        rw [← hy] at he Hfin
        clear hy HE
        go_wp2_with (first
          | (at_builtin; (refine print_append_of (w0 := w) encS w.heap.size rfl (.tmp 23) (.tmp 28) 135 9 (.string ByteArray.empty) 16 rfl Tryz.underlying135 info9 rfl (by decide) _ out y rfl rfl rfl HR.out HB.out ?s1 ?l1 ?_); (case s1 => exact HB.out.size); (case l1 => omega); intro v1 w2 hR2 hB2 hg hat; have HR2 := Lib.hid (show RowE encS 9 w2 w.heap.size v1 (out ++ [y]) from hR2); have HB2 := Lib.hid hB2; clear hR2 hB2 hg hat))
        go_roundg g
        case measure => omega
        case rel => exact ⟨l.length + 1, l.length + 1, out ++ [y], by omega, by go_num, by go_num, HR2.out, by simp; omega, HB2.out, .inr ⟨by omega, Hfin.out.symm⟩⟩
      · have hlt : i < l.length := by omega
        have hb1 : ((i : Int) == (l.length : Int)) = false := beq_eq_false_iff_ne.2 (by omega)
        have hgd : (bs l)[i]'(by rw [hsz]; exact hlt) = l[i] := by simp [bs, ByteArray.getElem_eq_getElem_data]
        have hdr : l.drop i = l[i] :: l.drop (i + 1) := List.drop_eq_getElem_cons hlt
        by_cases h10 : l[i] = 10
        · have Hn := Lib.hid (show linesL l = (out ++ [(l.take i).drop fr]) ++ glue ((l.take (i + 1)).drop (i + 1)) (linesL (l.drop (i + 1))) by
            have e1 : (l.take (i + 1)).drop (i + 1) = [] := List.drop_eq_nil_of_le (by simp; omega)
            rw [HE.out, hdr, linesL, if_pos h10, e1, glue_nil _ (linesL_ne _)]
            simp [glue])
          obtain ⟨y, hy⟩ : ∃ y, y = (l.take i).drop fr := ⟨_, rfl⟩
          rw [← hy] at he Hn
          rw [h10] at hgd
          clear hy HE hdr h10
          go_wp2_with (first
            | (at_builtin; (refine print_append_of (w0 := w) encS w.heap.size rfl (.tmp 23) (.tmp 28) 135 9 (.string ByteArray.empty) 16 rfl Tryz.underlying135 info9 rfl (by decide) _ out y rfl rfl rfl HR.out HB.out ?s2 ?l2 ?_); (case s2 => exact HB.out.size); (case l2 => omega); intro v1 w2 hR2 hB2 hg hat; have HR2 := Lib.hid (show RowE encS 9 w2 w.heap.size v1 (out ++ [y]) from hR2); have HB2 := Lib.hid hB2; clear hR2 hB2 hg hat))
          go_roundg g
          case measure => omega
          case rel => exact ⟨i + 1, i + 1, out ++ [y], by omega, by go_num, by go_num, HR2.out, by simp; omega, HB2.out, .inl ⟨by omega, by omega, Hn.out⟩⟩
        · have Hn := Lib.hid (show linesL l = out ++ glue ((l.take (i + 1)).drop fr) (linesL (l.drop (i + 1))) by
            rw [HE.out, hdr, linesL_cons _ _ h10, glue_glue _ _ _ (linesL_ne _)]
            congr 2
            rw [List.take_succ_eq_append_getElem hlt, List.drop_append_of_le_length (by simp; omega)])
          have h10b : (((l[i]).toNat : Int) == 10) = false := beq_eq_false_iff_ne.2 (fun e => h10 (by apply UInt8.toNat_inj.1; exact Int.ofNat_inj.1 e))
          clear he HE hdr h10
          go_wp2_with fail
          go_roundg g
          case measure => omega
          case rel => exact ⟨i + 1, fr, out, by omega, by go_num, rfl, HR.out, by omega, HB.out, .inl ⟨by omega, by omega, Hn.out⟩⟩
end Go.Proofs.YticnmogeknlmeaaGreatDoor.B
namespace Go.Proofs.YticnmogeknlmeaaGreatDoor.B
open Go.RowKit Go.Proofs.YticnmogeknlmeaaGreatDoorW.PrintWords
set_option maxRecDepth 100000
set_option maxHeartbeats 1600000
/-- A count as the code answers it. -/
def ctv : Option Nat → Value
  | some n => .tuple #[.int .i64 (n : Int), .bool true]
  | none => .tuple #[.int .i64 0, .bool false]
theorem bs_get (l : List UInt8) (i : Nat) (h : i < l.length) (h2 : i < (bs l).size) : (bs l)[i]'h2 = l[i]'h := rfl
theorem bs_empty (l : List UInt8) : (bs l).toList.isEmpty = l.isEmpty := by rw [ByteArray.toList_eq, bs_list]
theorem count_any (l : List UInt8) (hl : l.length < 4294967281) (w : World) : Calls Tryz.prog 86 #[.string (bs l)] w fun e w' => e = .returned (ctv (countL l)) ∧ Below w.heap.size w w' := by
  have hsz := bs_size l
  go_enter Tryz.func86, Tryz.ntmps86
  go_wp2_with fail
  have hB0 : Below w.heap.size w (w.iter (bs l) 0) := (Below.refl _ w).alloc (Nat.le_refl _) _
  have hk0 : (w.iter (bs l) 0).heap[w.heap.size]? = some (.stringIter (bs l) 0) := World.iter_heap _ _ _
  generalize w.iter (bs l) 0 = w0 at hB0 hk0
  go_loopg [4] (l.length + 1) (fun g v wr => ∃ i n : Nat, i + g = l.length + 1 ∧ i ≤ l.length ∧ v = .int .i64 (n : Int) ∧ n < 2147483648 ∧ wr.heap[w.heap.size]? = some (.stringIter (bs l) i) ∧ Below w.heap.size w wr ∧ countP true 0 l = countP (decide (i = 0)) n (l.drop i))
  case atStart => exact ⟨0, 0, by omega, by omega, rfl, by decide, hk0, hB0, by simp⟩
  case round =>
    obtain ⟨i, n, hi, hil, rfl, hn, hk, hB, hc⟩ := hrel
    have HC := Lib.hid hc
    have HB := Lib.hid hB
    clear hB0 hk0 hc hB
    cases gk with
    | zero => omega
    | succ g =>
      by_cases hend : i < l.length
      · have hp : i < (bs l).size := by rw [hsz]; exact hend
        obtain ⟨c, hce⟩ : ∃ c, c = l[i]'hend := ⟨_, rfl⟩
        have hgd := (bs_get l i hend hp).trans hce.symm
        have hdr := Lib.hid (show l.drop i = c :: l.drop (i + 1) by rw [hce]; exact List.drop_eq_getElem_cons hend)
        clear hce
        obtain ⟨d, hd⟩ : ∃ d, d = Utf8.decode (bs l) i := ⟨_, rfl⟩
        have hnext : ∀ ty, (Instr.next (.pointer (some ⟨w.heap.size, 0, none⟩)) true ty).run Tryz.prog wr = .ok (.tuple #[.bool true, .int .i64 (i : Int), .int .i32 (d.1 : Int)]) (wr.iterAt w.heap.size (bs l) (i + d.2)) := fun ty => by rw [hd]; exact Lib.run_next_any_at wr w.heap.size (bs l) i ty hk hp
        have hk1 := Lib.iterAt_heap wr w.heap.size (bs l) i (i + d.2) hk
        have HB1 := Lib.hid (Lib.below_iterAt HB.out (Nat.le_refl _) (bs l) (i + d.2))
        generalize wr.iterAt w.heap.size (bs l) (i + d.2) = W1 at hnext hk1 HB1
        have hdle : d.1 ≤ 2147483647 := by rw [hd]; exact decode_le _ _
        have hcd : (c.toNat < 128 ∧ d = (c.toNat, 1)) ∨ (128 ≤ c.toNat ∧ 128 ≤ d.1) := by
          by_cases h : c.toNat < 128
          · exact .inl ⟨h, by rw [hd, decode_ascii (bs l) i hp (by rw [hgd]; exact h), hgd]⟩
          · exact .inr ⟨by omega, by rw [hd]; exact (decode_high (bs l) i hp (by rw [hgd]; omega)).1⟩
        clear hd hgd
        by_cases hdg : dig c = true
        · have hdd : 48 ≤ c.toNat ∧ c.toNat ≤ 57 := by simpa [dig] using hdg
          obtain rfl : d = (c.toNat, 1) := by rcases hcd with ⟨_, h⟩ | ⟨h, _⟩; exact h; omega
          obtain ⟨cn, hcn⟩ : ∃ cn, cn = c.toNat := ⟨_, rfl⟩
          simp only [← hcn] at hnext hk1 HB1 hdd hdle
          have ha : decide ((cn : Int) < 48) = false := decide_eq_false (by omega)
          have hb : decide (57 < (cn : Int)) = false := decide_eq_false (by omega)
          clear hcd
          by_cases hz : 0 < i ∧ n = 0
          · obtain ⟨hi0, rfl⟩ := hz
            have hi1 : decide (0 < (i : Int)) = true := decide_eq_true (by omega)
            go_wp2_with fail
            go_ret2
            refine ⟨?_, HB1.out⟩
            have hcl : countL l = none := by
              rw [countL, if_neg (by intro h; subst h; simp at hend), HC.out, hdr.out, countP, if_pos (.inr ⟨by simp; omega, rfl⟩)]
            rw [hcl]; rfl
          · have hi1 : (decide (0 < (i : Int)) && ((n : Int) == 0)) = false := by
              simp; omega
            have hcl := Lib.hid (show countP true 0 l = if 2147483648 ≤ n * 10 + (cn - 48) then none else countP false (n * 10 + (cn - 48)) (l.drop (i + 1)) by
              rw [HC.out, hdr.out, countP, if_neg (by simp [hdg]; omega), hcn])
            obtain ⟨m, hm⟩ : ∃ m, m = n * 10 + (cn - 48) := ⟨_, rfl⟩
            rw [← hm] at hcl
            have hm2 : (n : Int) * 10 + ((cn : Int) - 48) = (m : Int) := by omega
            by_cases hbig : 2147483648 ≤ m
            · have hbi : decide (2147483648 ≤ (m : Int)) = true := decide_eq_true (by omega)
              by_cases hi0 : 0 < i
              · have hi1 : decide (0 < (i : Int)) = true := decide_eq_true (by omega)
                have hn0 : ((n : Int) == 0) = false := beq_eq_false_iff_ne.2 (by omega)
                go_wp2_with fail
                go_ret2
                refine ⟨?_, HB1.out⟩
                have h5 : countL l = none := by
                  rw [countL, if_neg (by intro h; subst h; simp at hend), hcl.out, if_pos hbig]
                rw [h5]; rfl
              · have hi1 : decide (0 < (i : Int)) = false := decide_eq_false (by omega)
                go_wp2_with fail
                go_ret2
                refine ⟨?_, HB1.out⟩
                have h5 : countL l = none := by
                  rw [countL, if_neg (by intro h; subst h; simp at hend), hcl.out, if_pos hbig]
                rw [h5]; rfl
            · have hbi : decide (2147483648 ≤ (m : Int)) = false := decide_eq_false (by omega)
              have Hn := Lib.hid (show countP true 0 l = countP (decide (i + 1 = 0)) m (l.drop (i + 1)) by
                rw [hcl.out, if_neg hbig]; simp)
              by_cases hi0 : 0 < i
              · have hi1 : decide (0 < (i : Int)) = true := decide_eq_true (by omega)
                have hn0 : ((n : Int) == 0) = false := beq_eq_false_iff_ne.2 (by omega)
                go_wp2_with fail
                go_roundg g
                case measure => omega
                case rel => exact ⟨i + 1, m, by omega, by omega, by go_num, by omega, hk1, HB1.out, Hn.out⟩
              · have hi1 : decide (0 < (i : Int)) = false := decide_eq_false (by omega)
                go_wp2_with fail
                go_roundg g
                case measure => omega
                case rel => exact ⟨i + 1, m, by omega, by omega, by go_num, by omega, hk1, HB1.out, Hn.out⟩
        · have hcl : countL l = none := by
            rw [countL, if_neg (by intro h; subst h; simp at hend), HC.out, hdr.out, countP, if_pos (.inl (by simpa using hdg))]
          have Hcl := Lib.hid hcl
          have hdd : ¬ (48 ≤ c.toNat ∧ c.toNat ≤ 57) := by simpa [dig] using hdg
          obtain ⟨cn, hcn⟩ : ∃ cn, cn = d.1 := ⟨_, rfl⟩
          simp only [← hcn] at hnext hdle
          have hlt : cn < 48 ∨ 57 < cn := by
            rcases hcd with ⟨_, h⟩ | ⟨_, h⟩
            · rw [h] at hcn; simp only at hcn; omega
            · omega
          clear hcd hdd hcl hdr HC
          by_cases h1 : cn < 48
          · have ha : decide ((cn : Int) < 48) = true := decide_eq_true (by omega)
            go_wp2_with fail
            go_ret2
            rw [Hcl.out]
            exact ⟨rfl, HB1.out⟩
          · have ha : decide ((cn : Int) < 48) = false := decide_eq_false (by omega)
            have hb : decide (57 < (cn : Int)) = true := decide_eq_true (by omega)
            go_wp2_with fail
            go_ret2
            rw [Hcl.out]
            exact ⟨rfl, HB1.out⟩
      · obtain rfl : i = l.length := by omega
        have hnext : ∀ ty, (Instr.next (.pointer (some ⟨w.heap.size, 0, none⟩)) true ty).run Tryz.prog wr = _ := fun ty => Lib.run_next_end_at wr w.heap.size (bs l) l.length ty hk (by rw [hsz]; omega)
        by_cases hl0 : l = []
        · subst hl0
          have hq : (bs []).toList.isEmpty = true := bs_empty []
          have hn0 : n = 0 := by have := HC.out; simp [countP] at this; omega
          subst hn0
          go_wp2_with fail
          go_ret2
          exact ⟨rfl, HB.out⟩
        · have hq : (bs l).toList.isEmpty = false := by rw [bs_empty]; cases l with
            | nil => exact absurd rfl hl0
            | cons a b => rfl
          have hcl : countL l = some n := by rw [countL, if_neg hl0, HC.out, List.drop_length]; rfl
          go_wp2_with fail
          go_ret2
          rw [hcl]
          exact ⟨rfl, HB.out⟩
end Go.Proofs.YticnmogeknlmeaaGreatDoor.B
namespace Go.Proofs.YticnmogeknlmeaaGreatDoor.B
open Go.RowKit Go.Proofs.YticnmogeknlmeaaGreatDoorW.PrintWords
set_option maxRecDepth 100000
set_option maxHeartbeats 1600000
theorem valN_snoc (l : List UInt8) (i : Nat) (h : i < l.length) : valN 0 (l.take (i + 1)) = valN 0 (l.take i) * 10 + ((l[i]'h).toNat - 48) := by
  rw [List.take_add_one, List.getElem?_eq_getElem h, valN, List.foldl_append]
  rfl
theorem all_snoc (l : List UInt8) (i : Nat) (h : i < l.length) : (l.take (i + 1)).all dig = ((l.take i).all dig && dig (l[i]'h)) := by
  rw [List.take_add_one, List.getElem?_eq_getElem h, List.all_append]
  simp
theorem all_of_not (l : List UInt8) (i : Nat) (h : i < l.length) (hd : dig (l[i]'h) = false) : l.all dig = false := by
  rw [List.all_eq_false]
  exact ⟨_, List.getElem_mem h, by simp [hd]⟩
theorem refCount_any (l : List UInt8) (w : World) : Calls Tryz.prog 83 #[.string (bs l)] w fun e w' => e = .returned (ctv (countL l)) ∧ Below w.heap.size w w' := by
  rw [← count_same l]
  have hsz := bs_size l
  have hB0 := Lib.hid (Below.refl w.heap.size w)
  cases hl0 : l with
  | nil =>
    subst hl0
    have hq : (bs []).toList.isEmpty = true := bs_empty []
    have hR := Lib.hid (show countR [] = none from rfl)
    go_enter Tryz.func83, Tryz.ntmps83
    go_wp2_with fail
    go_ret2
    rw [hR.out]
    exact ⟨rfl, hB0.out⟩
  | cons c0 l0 =>
    have hq : (bs l).toList.isEmpty = false := by rw [bs_empty, hl0]; rfl
    have hgc := Lib.hid (show ∀ h2, (bs l)[0]'h2 = c0 from fun h2 => by rw [bs_get l 0 (by rw [hl0]; simp) h2]; simp [hl0])
    have hlen : 0 < l.length := by rw [hl0]; simp
    have hne := Lib.hid (show l ≠ [] by rw [hl0]; simp)
    have hg0 := Lib.hid (show l.getD 0 0 = c0 by rw [hl0]; rfl)
    rw [← hl0]
    clear hl0
    by_cases hlong : 10 < l.length
    · have ha : decide (10 < (l.length : Int)) = true := decide_eq_true (by omega)
      have hR := Lib.hid (show countR l = none by rw [countR, if_pos (.inr (.inl hlong))])
      go_enter Tryz.func83, Tryz.ntmps83
      go_wp2_with fail
      go_ret2
      rw [hR.out]
      exact ⟨rfl, hB0.out⟩
    · have ha : decide (10 < (l.length : Int)) = false := decide_eq_false (by omega)
      have h0 : (bs l)[0]'(by rw [hsz]; exact hlen) = c0 := hgc.out _
      by_cases hlead : 1 < l.length ∧ c0 = 48
      · obtain ⟨h1, rfl⟩ := hlead
        have hb : decide (1 < (l.length : Int)) = true := decide_eq_true (by omega)
        have hR := Lib.hid (show countR l = none by rw [countR, if_pos (.inr (.inr ⟨h1, hg0.out⟩))])
        go_enter Tryz.func83, Tryz.ntmps83
        go_wp2_with fail
        go_ret2
        rw [hR.out]
        exact ⟨rfl, hB0.out⟩
      · have hR := Lib.hid (show countR l = if l.all dig = true then (if 2147483648 ≤ valN 0 l then none else some (valN 0 l)) else none by
          rw [countR, if_neg (by rintro (h | h | ⟨h, h2⟩); exact hne.out h; omega; exact hlead ⟨h, hg0.out.symm.trans h2⟩)])
        have hcn : ¬ (c0.toNat = 48) ∨ ¬ (1 < l.length) := by
          by_cases h : 1 < l.length
          · left; intro h2; exact hlead ⟨h, by apply UInt8.toNat_inj.1; rw [h2]; rfl⟩
          · exact .inr h
        have htest : (1 < l.length ∧ ((c0.toNat : Int) == 48) = false ∧ decide (1 < (l.length : Int)) = true) ∨ decide (1 < (l.length : Int)) = false := by
          by_cases h : 1 < l.length
          · left; refine ⟨h, beq_eq_false_iff_ne.2 (by omega), decide_eq_true (by omega)⟩
          · right; exact decide_eq_false (by omega)
        clear hlead hcn
        go_enter Tryz.func83, Tryz.ntmps83
        rcases htest with ⟨_, hb, hc⟩ | hc
        all_goals
          go_wp2_with fail
          clear h0 ha
          go_loopg [4, 5] (l.length + 1) (fun g v x wr => ∃ i n : Nat, i + g = l.length + 1 ∧ i ≤ l.length ∧ v = .int .i64 (n : Int) ∧ x = .int .i64 (i : Int) ∧ n < 10 ^ i ∧ n = valN 0 (l.take i) ∧ (l.take i).all dig = true ∧ wr = w)
          case atStart => exact ⟨0, 0, by omega, by omega, rfl, rfl, by decide, rfl, rfl, rfl⟩
          case round =>
            obtain ⟨i, n, hi, hil, rfl, rfl, hn, hv, had, rfl⟩ := hrel
            have HV := Lib.hid hv
            have HD := Lib.hid had
            clear hv had
            cases gk with
            | zero => omega
            | succ g =>
              have hnb : n < 10000000000 := Nat.lt_of_lt_of_le hn (Nat.le_trans (Nat.pow_le_pow_right (by decide) (show i ≤ 10 by omega)) (by decide))
              by_cases hend : i < l.length
              · have hlt : decide ((i : Int) < (l.length : Int)) = true := decide_eq_true (by omega)
                have hp : i < (bs l).size := by rw [hsz]; exact hend
                obtain ⟨c, hce⟩ : ∃ c, c = l[i]'hend := ⟨_, rfl⟩
                have hgd := (bs_get l i hend hp).trans hce.symm
                have HN := Lib.hid (show valN 0 (l.take (i + 1)) = n * 10 + (c.toNat - 48) by rw [valN_snoc l i hend, ← HV.out, hce])
                have HA := Lib.hid (show (l.take (i + 1)).all dig = dig c by rw [all_snoc l i hend, HD.out, hce, Bool.true_and])
                have HNo := Lib.hid (show dig c = false → countR l = none from fun h => by rw [hR.out, if_neg]; rw [all_of_not l i hend (by rw [← hce]; exact h)]; decide)
                have HP := Lib.hid (show 10 ^ (i + 1) = 10 ^ i * 10 from Nat.pow_succ _ _)
                clear hce
                obtain ⟨cn, hcn⟩ : ∃ cn, cn = c.toNat := ⟨_, rfl⟩
                by_cases hdg : dig c = true
                · have hdd : 48 ≤ c.toNat ∧ c.toNat ≤ 57 := by simpa [dig] using hdg
                  rw [← hcn] at hdd
                  have e1 : decide ((cn : Int) < 48) = false := decide_eq_false (by omega)
                  have e2 : decide (57 < (cn : Int)) = false := decide_eq_false (by omega)
                  rw [hcn] at e1 e2
                  have e3 : ((n : Int) * 10 + (c.toNat : Int) - 48) = ((n * 10 + (cn - 48) : Nat) : Int) := by omega
                  go_wp2_with fail
                  go_roundg g
                  case measure => omega
                  case rel => exact ⟨i + 1, n * 10 + (cn - 48), by omega, by omega, by go_num, by go_num, by rw [HP.out]; omega, by rw [HN.out, hcn], HA.out.trans hdg, rfl⟩
                · have hdd : ¬ (48 ≤ c.toNat ∧ c.toNat ≤ 57) := by simpa [dig] using hdg
                  have hcr := Lib.hid (HNo.out (by simpa using hdg))
                  by_cases h1 : c.toNat < 48
                  · have e1 : decide ((c.toNat : Int) < 48) = true := decide_eq_true (by omega)
                    go_wp2_with fail
                    go_ret2
                    rw [hcr.out]
                    exact ⟨rfl, hB0.out⟩
                  · have e1 : decide ((c.toNat : Int) < 48) = false := decide_eq_false (by omega)
                    have e2 : decide (57 < (c.toNat : Int)) = true := decide_eq_true (by omega)
                    go_wp2_with fail
                    go_ret2
                    rw [hcr.out]
                    exact ⟨rfl, hB0.out⟩
              · have hlt : decide ((i : Int) < (l.length : Int)) = false := decide_eq_false (by omega)
                obtain rfl : i = l.length := by omega
                have HV2 := Lib.hid (show valN 0 l = n by rw [HV.out, List.take_length])
                have HR2 := Lib.hid (show countR l = if 2147483648 ≤ n then none else some n by
                  have h := HD.out
                  rw [List.take_length] at h
                  rw [hR.out, if_pos h, HV2.out])
                by_cases hbig : 2147483648 ≤ n
                · have e5 : decide (2147483648 ≤ (n : Int)) = true := decide_eq_true (by omega)
                  go_wp2_with fail
                  go_ret2
                  rw [HR2.out, if_pos hbig]
                  exact ⟨rfl, hB0.out⟩
                · have e5 : decide (2147483648 ≤ (n : Int)) = false := decide_eq_false (by omega)
                  go_wp2_with fail
                  go_ret2
                  rw [HR2.out, if_neg hbig]
                  exact ⟨rfl, hB0.out⟩
end Go.Proofs.YticnmogeknlmeaaGreatDoor.B
