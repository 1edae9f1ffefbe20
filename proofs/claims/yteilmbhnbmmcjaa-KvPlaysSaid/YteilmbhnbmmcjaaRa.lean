/- Helper: which fields a record has, and whether it may be, walked. No condition. -/
import Derived.Test.YteilmbhnbmmcjaaBa
namespace Go.Proofs.Yteilmbhnbmmcjaa.B
open Go.RowKit Go.Proofs.YteilmbhnbmmcjaaW.PrintWords
set_option maxRecDepth 100000
set_option maxHeartbeats 1600000
/-- The fields of a record of a kind: which, and what they may be at most. -/
def fieldsOf (k : Int) : List (Nat × Int) :=
  if k = 1 then [(1, 15), (2, 1023), (3, 511)]
  else if k = 2 then [(1, 15), (2, 1023)]
  else if k = 3 then [(3, 511), (4, 511)]
  else if k = 4 then [(1, 15), (5, 1024)]
  else if k = 5 then [(1, 15)]
  else if k = 7 then [(1, 15)]
  else if k = 6 then [(1, 15), (4, 15)]
  else if k = 8 then [(3, 31)]
  else if k = 9 then [(3, 31), (5, 1073741824)]
  else []
def rowV (p : Nat) (m : Nat) : Value := if m = 0 then .slice none 0 0 else .slice (some ⟨p, 0, none⟩) m m
def ptrs (a : Nat) (l : List (Nat × Int)) : Array Value := (l.map fun x => Value.pointer (some ⟨a, x.1, none⟩)).toArray
def mosts (l : List (Nat × Int)) : Array Value := (l.map fun x => Value.int .i64 x.2).toArray
def FieldsPost (a : Nat) (k : Int) (w : World) (e : Ending) (w' : World) : Prop :=
  ∃ p q, e = .returned (.tuple #[rowV p (fieldsOf k).length, rowV q (fieldsOf k).length]) ∧ Below w.heap.size w w' ∧ (fieldsOf k ≠ [] → Blk w' p (ptrs a (fieldsOf k)) 138 ∧ Blk w' q (mosts (fieldsOf k)) 3 ∧ w.heap.size ≤ p ∧ w.heap.size ≤ q)
theorem FieldsPost.pq {a : Nat} {k : Int} {w : World} {c d : Array Value} (hc : c = ptrs a (fieldsOf k)) (hd : d = mosts (fieldsOf k)) (h : fieldsOf k ≠ []) : FieldsPost a k w (.returned (.tuple #[.slice (some ⟨w.heap.size, 0, none⟩) (fieldsOf k).length (fieldsOf k).length, .slice (some ⟨w.heap.size + 1, 0, none⟩) (fieldsOf k).length (fieldsOf k).length])) ((w.alloc (.cells c 138)).alloc (.cells d 3)) := by
  have hl : (fieldsOf k).length ≠ 0 := fun e => h (List.eq_nil_of_length_eq_zero e)
  refine ⟨w.heap.size, w.heap.size + 1, by simp [rowV, hl], ((Below.refl _ _).alloc (Nat.le_refl _) _).alloc (by simp) _, fun _ => ⟨?_, ?_, Nat.le_refl _, by omega⟩⟩
  · rw [← hc]; exact (Blk.new w c 138).below ((Below.refl _ _).alloc (Nat.le_refl _) _)
  · rw [← hd]; have := Blk.new (w.alloc (.cells c 138)) d 3; simpa using this
theorem FieldsPost.qp {a : Nat} {k : Int} {w : World} {c d : Array Value} (hc : c = ptrs a (fieldsOf k)) (hd : d = mosts (fieldsOf k)) (h : fieldsOf k ≠ []) : FieldsPost a k w (.returned (.tuple #[.slice (some ⟨w.heap.size + 1, 0, none⟩) (fieldsOf k).length (fieldsOf k).length, .slice (some ⟨w.heap.size, 0, none⟩) (fieldsOf k).length (fieldsOf k).length])) ((w.alloc (.cells d 3)).alloc (.cells c 138)) := by
  have hl : (fieldsOf k).length ≠ 0 := fun e => h (List.eq_nil_of_length_eq_zero e)
  refine ⟨w.heap.size + 1, w.heap.size, by simp [rowV, hl], ((Below.refl _ _).alloc (Nat.le_refl _) _).alloc (by simp) _, fun _ => ⟨?_, ?_, by omega, Nat.le_refl _⟩⟩
  · rw [← hc]; have := Blk.new (w.alloc (.cells d 3)) c 138; simpa using this
  · rw [← hd]; exact (Blk.new w d 3).below ((Below.refl _ _).alloc (Nat.le_refl _) _)
theorem FieldsPost.drew {a : Nat} {k : Int} {w w' : World} {e : Ending} (h : FieldsPost a k w e w') : FieldsPost a k w e w'.drew := by
  obtain ⟨p, q, h1, h2, h3⟩ := h
  exact ⟨p, q, h1, h2.drew, h3⟩
theorem fields_1 (a : Nat) (w : World) (h : w.cell? ⟨a, 0, none⟩ = some (.int .i64 1)) : Calls Try.prog 73 #[.pointer (some ⟨a, 0, none⟩)] w (FieldsPost a 1 w) := by
  go_enter Try.func73, Try.ntmps73
  go_wp2_with fail
  go_region_held3 (fun _ => True) (trivial) (first | fail)
  all_goals go_wp2
  all_goals go_ret2
  all_goals first | exact (FieldsPost.pq (k := 1) rfl rfl (by decide)).drew | exact (FieldsPost.qp (k := 1) rfl rfl (by decide)).drew
theorem fields_2 (a : Nat) (w : World) (h : w.cell? ⟨a, 0, none⟩ = some (.int .i64 2)) : Calls Try.prog 73 #[.pointer (some ⟨a, 0, none⟩)] w (FieldsPost a 2 w) := by
  go_enter Try.func73, Try.ntmps73
  go_wp2_with fail
  go_region_held3 (fun _ => True) (trivial) (first | fail)
  all_goals go_wp2
  all_goals go_ret2
  all_goals first | exact (FieldsPost.pq (k := 2) rfl rfl (by decide)).drew | exact (FieldsPost.qp (k := 2) rfl rfl (by decide)).drew
theorem fields_3 (a : Nat) (w : World) (h : w.cell? ⟨a, 0, none⟩ = some (.int .i64 3)) : Calls Try.prog 73 #[.pointer (some ⟨a, 0, none⟩)] w (FieldsPost a 3 w) := by
  go_enter Try.func73, Try.ntmps73
  go_wp2_with fail
  go_region_held3 (fun _ => True) (trivial) (first | fail)
  all_goals go_wp2
  all_goals go_ret2
  all_goals first | exact (FieldsPost.pq (k := 3) rfl rfl (by decide)).drew | exact (FieldsPost.qp (k := 3) rfl rfl (by decide)).drew
theorem fields_4 (a : Nat) (w : World) (h : w.cell? ⟨a, 0, none⟩ = some (.int .i64 4)) : Calls Try.prog 73 #[.pointer (some ⟨a, 0, none⟩)] w (FieldsPost a 4 w) := by
  go_enter Try.func73, Try.ntmps73
  go_wp2_with fail
  go_region_held3 (fun _ => True) (trivial) (first | fail)
  all_goals go_wp2
  all_goals go_ret2
  all_goals first | exact (FieldsPost.pq (k := 4) rfl rfl (by decide)).drew | exact (FieldsPost.qp (k := 4) rfl rfl (by decide)).drew
theorem fields_6 (a : Nat) (w : World) (h : w.cell? ⟨a, 0, none⟩ = some (.int .i64 6)) : Calls Try.prog 73 #[.pointer (some ⟨a, 0, none⟩)] w (FieldsPost a 6 w) := by
  go_enter Try.func73, Try.ntmps73
  go_wp2_with fail
  go_region_held3 (fun _ => True) (trivial) (first | fail)
  all_goals go_wp2
  all_goals go_ret2
  all_goals first | exact (FieldsPost.pq (k := 6) rfl rfl (by decide)).drew | exact (FieldsPost.qp (k := 6) rfl rfl (by decide)).drew
theorem fields_9 (a : Nat) (w : World) (h : w.cell? ⟨a, 0, none⟩ = some (.int .i64 9)) : Calls Try.prog 73 #[.pointer (some ⟨a, 0, none⟩)] w (FieldsPost a 9 w) := by
  go_enter Try.func73, Try.ntmps73
  go_wp2_with fail
  go_region_held3 (fun _ => True) (trivial) (first | fail)
  all_goals go_wp2
  all_goals go_ret2
  all_goals first | exact (FieldsPost.pq (k := 9) rfl rfl (by decide)).drew | exact (FieldsPost.qp (k := 9) rfl rfl (by decide)).drew
theorem fields_5 (a : Nat) (w : World) (h : w.cell? ⟨a, 0, none⟩ = some (.int .i64 5)) : Calls Try.prog 73 #[.pointer (some ⟨a, 0, none⟩)] w (FieldsPost a 5 w) := by
  go_enter Try.func73, Try.ntmps73
  go_wp2
  go_ret2
  exact FieldsPost.pq (k := 5) rfl rfl (by decide)
theorem fields_7 (a : Nat) (w : World) (h : w.cell? ⟨a, 0, none⟩ = some (.int .i64 7)) : Calls Try.prog 73 #[.pointer (some ⟨a, 0, none⟩)] w (FieldsPost a 7 w) := by
  go_enter Try.func73, Try.ntmps73
  go_wp2
  go_ret2
  exact FieldsPost.pq (k := 7) rfl rfl (by decide)
theorem fields_8 (a : Nat) (w : World) (h : w.cell? ⟨a, 0, none⟩ = some (.int .i64 8)) : Calls Try.prog 73 #[.pointer (some ⟨a, 0, none⟩)] w (FieldsPost a 8 w) := by
  go_enter Try.func73, Try.ntmps73
  go_wp2
  go_ret2
  exact FieldsPost.pq (k := 8) rfl rfl (by decide)
theorem fields_any (k : Int) (a : Nat) (w : World) (h : w.cell? ⟨a, 0, none⟩ = some (.int .i64 k)) : Calls Try.prog 73 #[.pointer (some ⟨a, 0, none⟩)] w (FieldsPost a k w) := by
  by_cases h1 : k = 1
  · subst h1; exact fields_1 a w h
  by_cases h2 : k = 2
  · subst h2; exact fields_2 a w h
  by_cases h3 : k = 3
  · subst h3; exact fields_3 a w h
  by_cases h4 : k = 4
  · subst h4; exact fields_4 a w h
  by_cases h5 : k = 5
  · subst h5; exact fields_5 a w h
  by_cases h6 : k = 6
  · subst h6; exact fields_6 a w h
  by_cases h7 : k = 7
  · subst h7; exact fields_7 a w h
  by_cases h8 : k = 8
  · subst h8; exact fields_8 a w h
  by_cases h9 : k = 9
  · subst h9; exact fields_9 a w h
  have e : fieldsOf k = [] := by simp [fieldsOf, *]
  have b1 := beq_eq_false_iff_ne.2 h1
  have b2 := beq_eq_false_iff_ne.2 h2
  have b3 := beq_eq_false_iff_ne.2 h3
  have b4 := beq_eq_false_iff_ne.2 h4
  have b5 := beq_eq_false_iff_ne.2 h5
  have b6 := beq_eq_false_iff_ne.2 h6
  have b7 := beq_eq_false_iff_ne.2 h7
  have b8 := beq_eq_false_iff_ne.2 h8
  have b9 := beq_eq_false_iff_ne.2 h9
  clear h1 h2 h3 h4 h5 h6 h7 h8 h9
  go_enter Try.func73, Try.ntmps73
  go_wp2
  go_ret2
  exact ⟨0, 0, by rw [e]; rfl, Below.refl _ _, fun hc => absurd e hc⟩
theorem in_any (n least most : Int) (w : World) : Calls Try.prog 74 #[.int .i64 n, .int .i64 least, .int .i64 most] w fun e w' => e = .returned (.bool (decide (least ≤ n) && decide (n ≤ most))) ∧ w = w' := by
  by_cases h1 : least ≤ n
  · by_cases h2 : n ≤ most
    · go_enter Try.func74, Try.ntmps74
      go_wp2
      go_ret
      exact ⟨by simp [h1, h2], rfl⟩
    · go_enter Try.func74, Try.ntmps74
      go_wp2
      go_ret
      exact ⟨by simp [h2], rfl⟩
  · go_enter Try.func74, Try.ntmps74
    go_wp2
    go_ret
    exact ⟨by simp [show ¬ least ≤ n by omega], rfl⟩
end Go.Proofs.Yteilmbhnbmmcjaa.B
