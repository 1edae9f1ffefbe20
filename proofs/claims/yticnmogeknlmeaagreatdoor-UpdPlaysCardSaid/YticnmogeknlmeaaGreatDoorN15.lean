/- Helper: which fields a record has, and whether it may be, walked. whether a record may be, walked. No condition. -/
import Derived.Test.YticnmogeknlmeaaGreatDoorN01
import Derived.Lib.SliceRun
import Derived.Deep.Light
namespace Go.Proofs.YticnmogeknlmeaaGreatDoor.B
open Go.RowKit Go.Proofs.YticnmogeknlmeaaGreatDoorW.PrintWords
set_option maxRecDepth 100000
set_option maxHeartbeats 1600000
/-- The fields of a record of a kind: which, and what they may be at most. -/
def fieldsOf (k : Int) : List (Nat × Int) :=
  if k = 1 then [(1, 15), (2, 1023), (3, 511)]
  else if k = 2 then [(1, 15), (2, 1023)]
  else if k = 3 then [(3, 511), (4, 511)]
  else if k = 4 then [(1, 15), (5, 1024)]
  else if k = 5 then [(1, 15)]
  else if k = 7 then [(1, 15)]
  else if k = 6 then [(1, 15), (4, 15)]
  else if k = 8 then [(3, 31)]
  else if k = 9 then [(3, 31), (5, 1073741824)]
  else []
def rowV (p : Nat) (m : Nat) : Value := if m = 0 then .slice none 0 0 else .slice (some ⟨p, 0, none⟩) m m
def ptrs (a : Nat) (l : List (Nat × Int)) : Array Value := (l.map fun x => Value.pointer (some ⟨a, x.1, none⟩)).toArray
def mosts (l : List (Nat × Int)) : Array Value := (l.map fun x => Value.int .i64 x.2).toArray
def FieldsPost (a : Nat) (k : Int) (w : World) (e : Ending) (w' : World) : Prop :=
  ∃ p q, e = .returned (.tuple #[rowV p (fieldsOf k).length, rowV q (fieldsOf k).length]) ∧ Below w.heap.size w w' ∧ (fieldsOf k ≠ [] → Blk w' p (ptrs a (fieldsOf k)) 213 ∧ Blk w' q (mosts (fieldsOf k)) 3 ∧ w.heap.size ≤ p ∧ w.heap.size ≤ q)
theorem FieldsPost.pq {a : Nat} {k : Int} {w : World} {c d : Array Value} (hc : c = ptrs a (fieldsOf k)) (hd : d = mosts (fieldsOf k)) (h : fieldsOf k ≠ []) : FieldsPost a k w (.returned (.tuple #[.slice (some ⟨w.heap.size, 0, none⟩) (fieldsOf k).length (fieldsOf k).length, .slice (some ⟨w.heap.size + 1, 0, none⟩) (fieldsOf k).length (fieldsOf k).length])) ((w.alloc (.cells c 213)).alloc (.cells d 3)) := by
  have hl : (fieldsOf k).length ≠ 0 := fun e => h (List.eq_nil_of_length_eq_zero e)
  refine ⟨w.heap.size, w.heap.size + 1, by simp [rowV, hl], ((Below.refl _ _).alloc (Nat.le_refl _) _).alloc (by simp) _, fun _ => ⟨?_, ?_, Nat.le_refl _, by omega⟩⟩
  · rw [← hc]; exact (Blk.new w c 213).below ((Below.refl _ _).alloc (Nat.le_refl _) _)
  · rw [← hd]; have := Blk.new (w.alloc (.cells c 213)) d 3; simpa using this
theorem FieldsPost.qp {a : Nat} {k : Int} {w : World} {c d : Array Value} (hc : c = ptrs a (fieldsOf k)) (hd : d = mosts (fieldsOf k)) (h : fieldsOf k ≠ []) : FieldsPost a k w (.returned (.tuple #[.slice (some ⟨w.heap.size + 1, 0, none⟩) (fieldsOf k).length (fieldsOf k).length, .slice (some ⟨w.heap.size, 0, none⟩) (fieldsOf k).length (fieldsOf k).length])) ((w.alloc (.cells d 3)).alloc (.cells c 213)) := by
  have hl : (fieldsOf k).length ≠ 0 := fun e => h (List.eq_nil_of_length_eq_zero e)
  refine ⟨w.heap.size + 1, w.heap.size, by simp [rowV, hl], ((Below.refl _ _).alloc (Nat.le_refl _) _).alloc (by simp) _, fun _ => ⟨?_, ?_, by omega, Nat.le_refl _⟩⟩
  · rw [← hc]; have := Blk.new (w.alloc (.cells d 3)) c 213; simpa using this
  · rw [← hd]; exact (Blk.new w d 3).below ((Below.refl _ _).alloc (Nat.le_refl _) _)
theorem FieldsPost.drew {a : Nat} {k : Int} {w w' : World} {e : Ending} (h : FieldsPost a k w e w') : FieldsPost a k w e w'.drew := by
  obtain ⟨p, q, h1, h2, h3⟩ := h
  exact ⟨p, q, h1, h2.drew, h3⟩
theorem fields_1 (a : Nat) (w : World) (h : w.cell? ⟨a, 0, none⟩ = some (.int .i64 1)) : Calls Tryz.prog 145 #[.pointer (some ⟨a, 0, none⟩)] w (FieldsPost a 1 w) := by
  go_enter Tryz.func145, Tryz.ntmps145
  go_wp2_with fail
  go_region_held3 (fun _ => True) (trivial) (first | fail)
  all_goals go_wp2
  all_goals go_ret2
  all_goals first | exact (FieldsPost.pq (k := 1) rfl rfl (by decide)).drew | exact (FieldsPost.qp (k := 1) rfl rfl (by decide)).drew
theorem fields_2 (a : Nat) (w : World) (h : w.cell? ⟨a, 0, none⟩ = some (.int .i64 2)) : Calls Tryz.prog 145 #[.pointer (some ⟨a, 0, none⟩)] w (FieldsPost a 2 w) := by
  go_enter Tryz.func145, Tryz.ntmps145
  go_wp2_with fail
  go_region_held3 (fun _ => True) (trivial) (first | fail)
  all_goals go_wp2
  all_goals go_ret2
  all_goals first | exact (FieldsPost.pq (k := 2) rfl rfl (by decide)).drew | exact (FieldsPost.qp (k := 2) rfl rfl (by decide)).drew
theorem fields_3 (a : Nat) (w : World) (h : w.cell? ⟨a, 0, none⟩ = some (.int .i64 3)) : Calls Tryz.prog 145 #[.pointer (some ⟨a, 0, none⟩)] w (FieldsPost a 3 w) := by
  go_enter Tryz.func145, Tryz.ntmps145
  go_wp2_with fail
  go_region_held3 (fun _ => True) (trivial) (first | fail)
  all_goals go_wp2
  all_goals go_ret2
  all_goals first | exact (FieldsPost.pq (k := 3) rfl rfl (by decide)).drew | exact (FieldsPost.qp (k := 3) rfl rfl (by decide)).drew
theorem fields_4 (a : Nat) (w : World) (h : w.cell? ⟨a, 0, none⟩ = some (.int .i64 4)) : Calls Tryz.prog 145 #[.pointer (some ⟨a, 0, none⟩)] w (FieldsPost a 4 w) := by
  go_enter Tryz.func145, Tryz.ntmps145
  go_wp2_with fail
  go_region_held3 (fun _ => True) (trivial) (first | fail)
  all_goals go_wp2
  all_goals go_ret2
  all_goals first | exact (FieldsPost.pq (k := 4) rfl rfl (by decide)).drew | exact (FieldsPost.qp (k := 4) rfl rfl (by decide)).drew
theorem fields_6 (a : Nat) (w : World) (h : w.cell? ⟨a, 0, none⟩ = some (.int .i64 6)) : Calls Tryz.prog 145 #[.pointer (some ⟨a, 0, none⟩)] w (FieldsPost a 6 w) := by
  go_enter Tryz.func145, Tryz.ntmps145
  go_wp2_with fail
  go_region_held3 (fun _ => True) (trivial) (first | fail)
  all_goals go_wp2
  all_goals go_ret2
  all_goals first | exact (FieldsPost.pq (k := 6) rfl rfl (by decide)).drew | exact (FieldsPost.qp (k := 6) rfl rfl (by decide)).drew
theorem fields_9 (a : Nat) (w : World) (h : w.cell? ⟨a, 0, none⟩ = some (.int .i64 9)) : Calls Tryz.prog 145 #[.pointer (some ⟨a, 0, none⟩)] w (FieldsPost a 9 w) := by
  go_enter Tryz.func145, Tryz.ntmps145
  go_wp2_with fail
  go_region_held3 (fun _ => True) (trivial) (first | fail)
  all_goals go_wp2
  all_goals go_ret2
  all_goals first | exact (FieldsPost.pq (k := 9) rfl rfl (by decide)).drew | exact (FieldsPost.qp (k := 9) rfl rfl (by decide)).drew
theorem fields_5 (a : Nat) (w : World) (h : w.cell? ⟨a, 0, none⟩ = some (.int .i64 5)) : Calls Tryz.prog 145 #[.pointer (some ⟨a, 0, none⟩)] w (FieldsPost a 5 w) := by
  go_enter Tryz.func145, Tryz.ntmps145
  go_wp2
  go_ret2
  exact FieldsPost.pq (k := 5) rfl rfl (by decide)
theorem fields_7 (a : Nat) (w : World) (h : w.cell? ⟨a, 0, none⟩ = some (.int .i64 7)) : Calls Tryz.prog 145 #[.pointer (some ⟨a, 0, none⟩)] w (FieldsPost a 7 w) := by
  go_enter Tryz.func145, Tryz.ntmps145
  go_wp2
  go_ret2
  exact FieldsPost.pq (k := 7) rfl rfl (by decide)
theorem fields_8 (a : Nat) (w : World) (h : w.cell? ⟨a, 0, none⟩ = some (.int .i64 8)) : Calls Tryz.prog 145 #[.pointer (some ⟨a, 0, none⟩)] w (FieldsPost a 8 w) := by
  go_enter Tryz.func145, Tryz.ntmps145
  go_wp2
  go_ret2
  exact FieldsPost.pq (k := 8) rfl rfl (by decide)
theorem fields_any (k : Int) (a : Nat) (w : World) (h : w.cell? ⟨a, 0, none⟩ = some (.int .i64 k)) : Calls Tryz.prog 145 #[.pointer (some ⟨a, 0, none⟩)] w (FieldsPost a k w) := by
  by_cases h1 : k = 1
  · subst h1; exact fields_1 a w h
  by_cases h2 : k = 2
  · subst h2; exact fields_2 a w h
  by_cases h3 : k = 3
  · subst h3; exact fields_3 a w h
  by_cases h4 : k = 4
  · subst h4; exact fields_4 a w h
  by_cases h5 : k = 5
  · subst h5; exact fields_5 a w h
  by_cases h6 : k = 6
  · subst h6; exact fields_6 a w h
  by_cases h7 : k = 7
  · subst h7; exact fields_7 a w h
  by_cases h8 : k = 8
  · subst h8; exact fields_8 a w h
  by_cases h9 : k = 9
  · subst h9; exact fields_9 a w h
  have e : fieldsOf k = [] := by simp [fieldsOf, *]
  have b1 := beq_eq_false_iff_ne.2 h1
  have b2 := beq_eq_false_iff_ne.2 h2
  have b3 := beq_eq_false_iff_ne.2 h3
  have b4 := beq_eq_false_iff_ne.2 h4
  have b5 := beq_eq_false_iff_ne.2 h5
  have b6 := beq_eq_false_iff_ne.2 h6
  have b7 := beq_eq_false_iff_ne.2 h7
  have b8 := beq_eq_false_iff_ne.2 h8
  have b9 := beq_eq_false_iff_ne.2 h9
  clear h1 h2 h3 h4 h5 h6 h7 h8 h9
  go_enter Tryz.func145, Tryz.ntmps145
  go_wp2
  go_ret2
  exact ⟨0, 0, by rw [e]; rfl, Below.refl _ _, fun hc => absurd e hc⟩
theorem in_any (n least most : Int) (w : World) : Calls Tryz.prog 146 #[.int .i64 n, .int .i64 least, .int .i64 most] w fun e w' => e = .returned (.bool (decide (least ≤ n) && decide (n ≤ most))) ∧ w = w' := by
  by_cases h1 : least ≤ n
  · by_cases h2 : n ≤ most
    · go_enter Tryz.func146, Tryz.ntmps146
      go_wp2
      go_ret
      exact ⟨by simp [h1, h2], rfl⟩
    · go_enter Tryz.func146, Tryz.ntmps146
      go_wp2
      go_ret
      exact ⟨by simp [h2], rfl⟩
  · go_enter Tryz.func146, Tryz.ntmps146
    go_wp2
    go_ret
    exact ⟨by simp [show ¬ least ≤ n by omega], rfl⟩
end Go.Proofs.YticnmogeknlmeaaGreatDoor.B
namespace Go.Proofs.YticnmogeknlmeaaGreatDoor.B
open Go.RowKit Go.Proofs.YticnmogeknlmeaaGreatDoorW.PrintWords
set_option maxRecDepth 100000
set_option maxHeartbeats 1600000
/-- A record. -/
structure Rc where
  k : Int
  s : Int
  p : Int
  a : Int
  t : Int
  n : Int
deriving DecidableEq
def Rc.get (r : Rc) (i : Nat) : Int := if i = 1 then r.s else if i = 2 then r.p else if i = 3 then r.a else if i = 4 then r.t else if i = 5 then r.n else r.k
def Rc.zero (r : Rc) (i : Nat) : Rc := if i = 1 then { r with s := 0 } else if i = 2 then { r with p := 0 } else if i = 3 then { r with a := 0 } else if i = 4 then { r with t := 0 } else if i = 5 then { r with n := 0 } else { r with k := 0 }
def Rc.cells (r : Rc) : Array Value := #[.int .i64 r.k, .int .i64 r.s, .int .i64 r.p, .int .i64 r.a, .int .i64 r.t, .int .i64 r.n]
theorem Rc.cells_get (r : Rc) (i : Nat) (h : i < 6) : r.cells[i]? = some (.int .i64 (r.get i)) := by
  match i, h with
  | 0, _ => rfl
  | 1, _ => rfl
  | 2, _ => rfl
  | 3, _ => rfl
  | 4, _ => rfl
  | 5, _ => rfl
theorem Rc.cells_set (r : Rc) (i : Nat) (h : i < 6) : r.cells.setIfInBounds i (.int .i64 0) = (r.zero i).cells := by
  match i, h with
  | 0, _ => rfl
  | 1, _ => rfl
  | 2, _ => rfl
  | 3, _ => rfl
  | 4, _ => rfl
  | 5, _ => rfl
theorem fields_lt (k : Int) : ∀ x ∈ fieldsOf k, 1 ≤ x.1 ∧ x.1 < 6 := by
  intro x hx
  unfold fieldsOf at hx
  repeat' (split at hx)
  all_goals simp at hx
  all_goals (first | (rcases hx with rfl | rfl | rfl) | (rcases hx with rfl | rfl) | subst hx)
  all_goals simp
theorem fields_len (k : Int) : (fieldsOf k).length ≤ 3 := by
  unfold fieldsOf
  repeat' split
  all_goals simp
def inAll (r : Rc) (l : List (Nat × Int)) : Bool := l.all fun x => decide (0 ≤ r.get x.1) && decide (r.get x.1 ≤ x.2)
def zeroAll (r : Rc) (l : List (Nat × Int)) : Rc := l.foldl (fun r x => r.zero x.1) r
def Rc.spaces (r : Rc) : Bool := decide (8 ≤ r.k) || (r.k == 3) || decide (1 ≤ r.s)
def Rc.bad (r : Rc) : Bool := decide (fieldsOf r.k = []) || !r.spaces || ((r.k == 4) && decide (r.n < 1)) || ((r.k == 6) && decide (r.t < 1))
/-- May a record be? -/
def Rc.may (r : Rc) : Bool := inAll r (fieldsOf r.k) && !r.bad && decide (zeroAll r (fieldsOf r.k) = ⟨r.k, 0, 0, 0, 0, 0⟩)
def AtIn (r : Rc) (w0 : World) (a p q : Nat) (x : Value) (wr : World) : Prop :=
  ∃ j : Nat, j ≤ (fieldsOf r.k).length ∧ x = .int .i64 j ∧ inAll r ((fieldsOf r.k).take j) = true ∧ Blk wr a r.cells 100 ∧ (fieldsOf r.k ≠ [] → Blk wr p (ptrs a (fieldsOf r.k)) 213 ∧ Blk wr q (mosts (fieldsOf r.k)) 3) ∧ Below w0.heap.size w0 wr
def ZIn (r : Rc) (w0 : World) (a p : Nat) (x : Value) (wr : World) : Prop :=
  ∃ j : Nat, j ≤ (fieldsOf r.k).length ∧ x = .int .i64 j ∧ Blk wr a (zeroAll r ((fieldsOf r.k).take j)).cells 100 ∧ Blk wr p (ptrs a (fieldsOf r.k)) 213 ∧ Below w0.heap.size w0 wr
theorem zero_k (r : Rc) (i : Nat) (h : 1 ≤ i) (h2 : i < 6) : (r.zero i).k = r.k := by
  match i, h, h2 with
  | 1, _, _ => rfl
  | 2, _, _ => rfl
  | 3, _, _ => rfl
  | 4, _, _ => rfl
  | 5, _, _ => rfl
theorem zeroAll_k : ∀ (l : List (Nat × Int)) (r : Rc), (∀ x ∈ l, 1 ≤ x.1 ∧ x.1 < 6) → (zeroAll r l).k = r.k
  | [], r, _ => rfl
  | x :: l, r, h => by
    have := zeroAll_k l (r.zero x.1) (fun y hy => h y (List.mem_cons_of_mem _ hy))
    rw [zero_k r x.1 (h x (by simp)).1 (h x (by simp)).2] at this
    exact this
theorem z_true {z : Rc} {k : Int} (hk : z.k = k) (h1 : z.s = 0) (h2 : z.p = 0) (h3 : z.a = 0) (h4 : z.t = 0) (h5 : z.n = 0) : decide (z = ⟨k, 0, 0, 0, 0, 0⟩) = true := by
  cases z; simp_all
theorem z_false {z : Rc} {k : Int} (h : z.s ≠ 0 ∨ z.p ≠ 0 ∨ z.a ≠ 0 ∨ z.t ≠ 0 ∨ z.n ≠ 0) : decide (z = ⟨k, 0, 0, 0, 0, 0⟩) = false := by
  refine decide_eq_false (fun e => ?_)
  subst e
  simp at h
theorem may_nil (r : Rc) (h : fieldsOf r.k = []) : r.may = false := by simp [Rc.may, Rc.bad, h]
theorem check_any (r : Rc) (w : World) : Calls Tryz.prog 137 #[.agg r.cells] w fun e w' => e = .returned (.bool r.may) ∧ Below w.heap.size w w' := by
  have hB0 := (Below.refl w.heap.size w).alloc (Nat.le_refl _) (.cells r.cells 100)
  have hA0 := Blk.new w r.cells 100
  have hs0 : (w.alloc (.cells r.cells 100)).heap.size = w.heap.size + 1 := by simp
  have hcell := hA0.cell 0
  rw [r.cells_get 0 (by decide)] at hcell
  have HB0 := Lib.hid hB0
  have HA0 := Lib.hid hA0
  clear hB0 hA0
  by_cases hnil : fieldsOf r.k = []
  · have hmay := may_nil r hnil
    go_enter Tryz.func137, Tryz.ntmps137
    go_wp2_with fail
    refine (fields_any r.k _ _ hcell).mono ?_
    rintro e w1 ⟨p, q, rfl, hb, -⟩
    rw [hnil]
    have HB1 := Lib.hid (HB0.out.trans (hb.mono (by omega)))
    have HA1 := Lib.hid (HA0.out.below hb)
    clear hb
    have c0 := HA1.out.cell 0
    have c1 := HA1.out.cell 1
    have c4 := HA1.out.cell 4
    have c5 := HA1.out.cell 5
    rw [r.cells_get _ (by decide)] at c0 c1 c4 c5
    have e0 : rowV p ([] : List (Nat × Int)).length = .slice none 0 0 := rfl
    have e1 : rowV q ([] : List (Nat × Int)).length = .slice none 0 0 := rfl
    rw [e0, e1]
    go_wp2
    have hn0 : ∀ W : World, (binOp .eql 209 (.slice none 0 0) (.slice none 0 0)).run Tryz.prog W = .ok (.bool true) W := fun W => Lib.run_eql_slice_nil W 209 213 none 0 0 0 0 (by kernel_rfl)
    go_loop [16] (fun x => x = .int .i64 0) (fun _ => 0)
    case atStart => rfl
    case round =>
      obtain rfl := hrel
      go_wp2
      all_goals go_ret
      all_goals exact ⟨rfl, HB1.out⟩
  · obtain ⟨m, hm⟩ : ∃ m, m = (fieldsOf r.k).length := ⟨_, rfl⟩
    have hm0 : 0 < m := by rw [hm]; exact List.length_pos_iff.2 hnil
    have hm3 : m ≤ 3 := by rw [hm]; exact fields_len r.k
    go_enter Tryz.func137, Tryz.ntmps137
    go_wp2_with fail
    refine (fields_any r.k _ _ hcell).mono ?_
    rintro e w1 ⟨p, q, rfl, hb, hpq⟩
    rw [← hm]
    have Hm := Lib.hid hm
    clear hm
    obtain ⟨hp, hq, hpl, hql⟩ := hpq hnil
    have HB1 := Lib.hid (HB0.out.trans (hb.mono (by omega)))
    have HA1 := Lib.hid (HA0.out.below hb)
    have HP := Lib.hid hp
    have HQ := Lib.hid hq
    clear hb hp hq hpq
    have e0 : rowV p m = .slice (some ⟨p, 0, none⟩) m m := by simp [rowV]; omega
    have e1 : rowV q m = .slice (some ⟨q, 0, none⟩) m m := by simp [rowV]; omega
    rw [e0, e1]
    have hn0 : ∀ W : World, (binOp .eql 209 (.slice (some ⟨p, 0, none⟩) m m) (.slice none 0 0)).run Tryz.prog W = .ok (.bool false) W := fun W => Lib.run_eql_slice_nil W 209 213 _ m m 0 0 (by kernel_rfl)
    go_wp2
    go_loopw [16] (fun x wr => AtIn r w w.heap.size p q x wr) (fun x _ => (m - intOf x).toNat)
    case atStart => exact ⟨0, Nat.zero_le _, rfl, by simp [inAll], HA1.out, fun _ => ⟨HP.out, HQ.out⟩, HB1.out⟩
    case round =>
      obtain ⟨j, hj, rfl, hin, hA, hPQ, hB⟩ := hrel
      obtain ⟨hP, hQ⟩ := hPQ hnil
      have HB := Lib.hid hB
      have HA := Lib.hid hA
      have HP2 := Lib.hid hP
      have HQ2 := Lib.hid hQ
      have HI := Lib.hid hin
      clear hB hA hP hQ hPQ hin
      rw [← Hm.out] at hj
      by_cases hlt : j < m
      · obtain ⟨⟨f, lim⟩, hf⟩ : ∃ x, (fieldsOf r.k)[j]? = some x := ⟨_, List.getElem?_eq_getElem (by rw [← Hm.out]; exact hlt)⟩
        have hmem := fields_lt r.k (f, lim) (List.mem_of_getElem? hf)
        have d1 := HP2.out.cell j
        have d2 := HQ2.out.cell j
        have d3 := HA.out.cell f
        rw [r.cells_get f hmem.2] at d3
        simp only [ptrs, mosts, List.getElem?_toArray, List.getElem?_map, hf, Option.map_some] at d1 d2
        have Hf := Lib.hid hf
        clear hf
        go_wp2_with fail
        obtain ⟨ok, hok⟩ : ∃ ok, ok = (decide (0 ≤ r.get f) && decide (r.get f ≤ lim)) := ⟨_, rfl⟩
        have Hok := Lib.hid hok
        have hin2 : ∀ W : World, Calls Tryz.prog 146 #[.int .i64 (r.get f), .int .i64 0, .int .i64 lim] W fun e w' => e = .returned (.bool ok) ∧ W = w' := fun W => by rw [hok]; exact in_any _ _ _ W
        clear hok
        go_region_held3 (fun w' => w'.cell? ⟨q, j, none⟩ = some (.int .i64 lim) ∧ w'.cell? ⟨w.heap.size, f, none⟩ = some (.int .i64 (r.get f))) (go_keep) (first | (go_at_call 146; refine (hin2 _).mono ?_; rintro e w' ⟨rfl, rfl⟩))
        cases ok
        · go_wp2
          go_ret
          refine ⟨?_, HB.out.drew⟩
          have : r.may = false := by
            have h1 : inAll r (fieldsOf r.k) = false := by
              unfold inAll
              refine List.all_eq_false.2 ⟨(f, lim), List.mem_of_getElem? Hf.out, ?_⟩
              rw [← Hok.out]; simp
            simp [Rc.may, h1]
          rw [this]; rfl
        · go_wp2
          refine ⟨⟨j + 1, ?_, by simp, ?_, HA.out, fun _ => ⟨HP2.out, HQ2.out⟩, HB.out.drew⟩, ?_⟩
          · rw [← Hm.out]; omega
          · have h1 := HI.out
            unfold inAll at h1 ⊢
            rw [List.take_add_one, Hf.out]
            simp only [List.all_append, h1, Option.toList_some, List.all_cons, List.all_nil, Bool.and_true, Bool.true_and]
            exact Hok.out.symm
          · simp [intOf]; omega
      · obtain rfl : j = m := by omega
        have hin : inAll r (fieldsOf r.k) = true := by
          have := HI.out
          rw [Hm.out, List.take_length] at this
          exact this
        have HI2 := Lib.hid hin
        clear hin HI
        have c0 : wr.cell? ⟨w.heap.size, 0, none⟩ = some (.int .i64 r.k) := HA.out.cell 0
        have c1 : wr.cell? ⟨w.heap.size, 1, none⟩ = some (.int .i64 r.s) := HA.out.cell 1
        have c4 : wr.cell? ⟨w.heap.size, 4, none⟩ = some (.int .i64 r.t) := HA.out.cell 4
        have c5 : wr.cell? ⟨w.heap.size, 5, none⟩ = some (.int .i64 r.n) := HA.out.cell 5
        clear hcell
        go_upto_region 8 with fail
        go_cut [7] (fun x wx => x = .bool r.spaces ∧ wr = wx)
        case first =>
          go_wp2
          all_goals (go_meet; refine ⟨?_, rfl⟩)
          all_goals go_light
          all_goals (unfold Rc.spaces; simp [*])
          all_goals trace_state
        case rest =>
          obtain ⟨rfl, rfl⟩ := hcut
          obtain ⟨sp, hsp⟩ : ∃ b, b = r.spaces := ⟨_, rfl⟩
          rw [← hsp]
          have Hsp := Lib.hid hsp
          clear hsp
          go_upto_region 9 with fail
          go_cut [7, 69] (fun y x wx => y = .bool sp ∧ x = .bool r.bad ∧ wr = wx)
          case first =>
            go_wp2
            all_goals (go_meet; refine ⟨?_, ?_, rfl⟩)
            all_goals go_light
            all_goals (first | (unfold Rc.bad; rw [← Hsp.out, decide_eq_false hnil]; simp [*]; done) | (simp [*]; done) | trace_state)
          case rest =>
            obtain ⟨rfl, rfl, rfl⟩ := hcut
            obtain ⟨bad, hbad⟩ : ∃ b, b = r.bad := ⟨_, rfl⟩
            rw [← hbad]
            have Hbad := Lib.hid hbad
            clear hbad
            cases bad
            · go_wp2_with fail
              have hap : w.heap.size ≠ p := by omega
              go_loopw [72] (fun x wx => ZIn r w w.heap.size p x wx) (fun x _ => (j - intOf x).toNat)
              case atStart => exact ⟨0, Nat.zero_le _, rfl, HA.out, HP2.out, HB.out⟩
              case round =>
                obtain ⟨i, hi, rfl, hA2, hP2, hB2⟩ := hrel
                have HA2 := Lib.hid hA2
                have HP3 := Lib.hid hP2
                have HB2 := Lib.hid hB2
                clear hA2 hP2 hB2
                rw [← Hm.out] at hi
                by_cases hlt : i < j
                · obtain ⟨⟨f, lim⟩, hf⟩ : ∃ x, (fieldsOf r.k)[i]? = some x := ⟨_, List.getElem?_eq_getElem (by rw [← Hm.out]; exact hlt)⟩
                  have hmem := fields_lt r.k (f, lim) (List.mem_of_getElem? hf)
                  have d1 := HP3.out.cell i
                  have d3 := HA2.out.cell f
                  have d4 := HA2.out.free f
                  rw [Rc.cells_get _ f hmem.2] at d3
                  simp only [ptrs, List.getElem?_toArray, List.getElem?_map, hf, Option.map_some] at d1
                  have Hf := Lib.hid hf
                  clear hf
                  go_wp2
                  refine ⟨⟨i + 1, ?_, by simp, ?_, HP3.out.far (p := ⟨w.heap.size, f, none⟩) hap.symm _, HB2.out.setCell (p := ⟨w.heap.size, f, none⟩) (Nat.le_refl _) _⟩, ?_⟩
                  · rw [← Hm.out]; omega
                  · have := HA2.out.set f (.int .i64 0)
                    rw [Rc.cells_set _ _ hmem.2] at this
                    rw [List.take_add_one, Hf.out]
                    simpa [zeroAll] using this
                  · simp [intOf]; omega
                · obtain rfl : i = j := by omega
                  have hA3 := HA2.out
                  rw [Hm.out, List.take_length] at hA3
                  have hk : (zeroAll r (fieldsOf r.k)).k = r.k := zeroAll_k _ _ (fields_lt r.k)
                  obtain ⟨z, hz⟩ : ∃ z, z = zeroAll r (fieldsOf r.k) := ⟨_, rfl⟩
                  rw [← hz] at hA3 hk
                  have z0 : _ = some (Value.int .i64 z.k) := hA3.cell 0
                  have z1 : _ = some (Value.int .i64 z.s) := hA3.cell 1
                  have z2 : _ = some (Value.int .i64 z.p) := hA3.cell 2
                  have z3 : _ = some (Value.int .i64 z.a) := hA3.cell 3
                  have z4 : _ = some (Value.int .i64 z.t) := hA3.cell 4
                  have z5 : _ = some (Value.int .i64 z.n) := hA3.cell 5
                  rw [hk] at z0
                  have Hz := Lib.hid hz
                  clear hz hA3
                  have Hmay := Lib.hid (show r.may = decide (z = ⟨r.k, 0, 0, 0, 0, 0⟩) by rw [Rc.may, HI2.out, ← Hbad.out, ← Hz.out]; rfl)
                  go_wp2_with fail
                  all_goals go_ret
                  all_goals refine ⟨(congrArg (fun b => Ending.returned (Value.bool b)) (?_ : _ = r.may)), HB2.out⟩
                  all_goals go_light
                  all_goals rw [Hmay.out]
                  all_goals (first | exact (z_true hk (by assumption) (by assumption) (by assumption) (by assumption) (by assumption)).symm | exact (z_false (by simp [*])).symm)
            · go_wp2
              go_ret
              refine ⟨?_, HB.out⟩
              have : r.may = false := by simp [Rc.may, ← Hbad.out]
              rw [this]; rfl
end Go.Proofs.YticnmogeknlmeaaGreatDoor.B
