/- Helper: rows of eight cells; what is kept of slots when one is installed; walked. No condition. -/
import Derived.Test.YticnmogeknlmeaaGreatDoorN19
namespace Go.Proofs.YticnmogeknlmeaaGreatDoor.B
open Go.RowKit Go.Proofs.YticnmogeknlmeaaGreatDoorW.PrintWords
set_option maxRecDepth 100000
set_option maxHeartbeats 1600000
theorem results_ct {P : Program} {fn : Func} {p u : Tmp} {ty : TypeId} (h : fn.results = #[.cell p ty, .tmp u]) (tmps : Array Value) (w : World) (g : Nat) (t : TypeId) (cs : Array Value) (d : TypeDesc) (hp : tmps.getD p undef = .pointer (some ⟨g, 0, none⟩)) (hg : w.heap[g]? = some (.cells cs t (0, 0)))
    (hu : P.underlying ty = some d) (hd : (match d with | .struct _ | .array _ _ => true | _ => false) = true) (hi : (P.info? ty).map (·.size) = some cs.size) :
    (results fn tmps).run P w = .ok (.tuple #[.agg cs, tmps.getD u undef]) w := by
  have hp' : tmps[p]?.getD undef = .pointer (some ⟨g, 0, none⟩) := by simpa using hp
  simp [results, h, hp', asAddr, run_loadVar_row w g t ty cs (0, 0) d hg hu hd hi]
theorem results_tct {P : Program} {fn : Func} {p u v : Tmp} {ty : TypeId} (h : fn.results = #[.tmp v, .cell p ty, .tmp u]) (tmps : Array Value) (w : World) (g : Nat) (t : TypeId) (cs : Array Value) (d : TypeDesc) (hp : tmps.getD p undef = .pointer (some ⟨g, 0, none⟩)) (hg : w.heap[g]? = some (.cells cs t (0, 0)))
    (hu : P.underlying ty = some d) (hd : (match d with | .struct _ | .array _ _ => true | _ => false) = true) (hi : (P.info? ty).map (·.size) = some cs.size) :
    (results fn tmps).run P w = .ok (.tuple #[tmps.getD v undef, .agg cs, tmps.getD u undef]) w := by
  have hp' : tmps[p]?.getD undef = .pointer (some ⟨g, 0, none⟩) := by simpa using hp
  simp [results, h, hp', asAddr, run_loadVar_row w g t ty cs (0, 0) d hg hu hd hi]
theorem cells8 {w : World} {g : Nat} {t : TypeId} {a b c d e f x y : Value} (h : Blk w g #[a, b, c, d, e, f, x, y] t) :
    w.cell? ⟨g, 0, none⟩ = some a ∧ w.cell? ⟨g, 1, none⟩ = some b ∧ w.cell? ⟨g, 2, none⟩ = some c ∧ w.cell? ⟨g, 3, none⟩ = some d ∧ w.cell? ⟨g, 4, none⟩ = some e ∧ w.cell? ⟨g, 5, none⟩ = some f ∧ w.cell? ⟨g, 6, none⟩ = some x ∧ w.cell? ⟨g, 7, none⟩ = some y :=
  ⟨h.cell 0, h.cell 1, h.cell 2, h.cell 3, h.cell 4, h.cell 5, h.cell 6, h.cell 7⟩
theorem blk_put8 {w : World} {g : Nat} {t : TypeId} {a b c d e f x y : Value} (h : Blk w g #[a, b, c, d, e, f, x, y] t) (a' b' c' d' e' f' x' y' : Value) :
    Blk ((((((((w.setCell ⟨g, 0, none⟩ a').setCell ⟨g, 1, none⟩ b').setCell ⟨g, 2, none⟩ c').setCell ⟨g, 3, none⟩ d').setCell ⟨g, 4, none⟩ e').setCell ⟨g, 5, none⟩ f').setCell ⟨g, 6, none⟩ x').setCell ⟨g, 7, none⟩ y') g #[a', b', c', d', e', f', x', y'] t := by
  have := (((((((h.set 0 a').set 1 b').set 2 c').set 3 d').set 4 e').set 5 f').set 6 x').set 7 y'
  simpa using this
theorem below_put8 {b g : Nat} {w w1 : World} (h : Below b w w1) (hg : b ≤ g) (a' b' c' d' e' f' x' y' : Value) :
    Below b w ((((((((w1.setCell ⟨g, 0, none⟩ a').setCell ⟨g, 1, none⟩ b').setCell ⟨g, 2, none⟩ c').setCell ⟨g, 3, none⟩ d').setCell ⟨g, 4, none⟩ e').setCell ⟨g, 5, none⟩ f').setCell ⟨g, 6, none⟩ x').setCell ⟨g, 7, none⟩ y') :=
  (((((((h.setCell (p := ⟨g, 0, none⟩) hg _).setCell (p := ⟨g, 1, none⟩) hg _).setCell (p := ⟨g, 2, none⟩) hg _).setCell (p := ⟨g, 3, none⟩) hg _).setCell (p := ⟨g, 4, none⟩) hg _).setCell (p := ⟨g, 5, none⟩) hg _).setCell (p := ⟨g, 6, none⟩) hg _).setCell (p := ⟨g, 7, none⟩) hg _
def bt0 : Array Value := #[.int .i64 0, .bool false, .int .i64 0, .int .i64 0, .int .i64 0, .int .i64 0, .bool false, .bool false]
/-- The two blocks that a function on what is kept lays first, behind a call that leaves them. -/
theorem two8 {w w1 : World} {cs ds : Array Value} (hB : Below ((w.alloc (.cells cs 32)).alloc (.cells ds 32)).heap.size ((w.alloc (.cells cs 32)).alloc (.cells ds 32)) w1) :
    Blk w1 w.heap.size cs 32 ∧ Blk w1 (w.heap.size + 1) ds 32 ∧ Below w.heap.size w w1 := by
  refine ⟨((Blk.new w cs 32).below ((Below.refl _ _).alloc (Nat.le_refl _) _)).below hB, ?_, ?_⟩
  · have := Blk.new (w.alloc (.cells cs 32)) ds 32
    rw [show (w.alloc (.cells cs 32)).heap.size = w.heap.size + 1 by simp] at this
    exact this.below hB
  · exact (((Below.refl _ _).alloc (Nat.le_refl _) _).alloc (by simp) _).trans (hB.mono (by simp; omega))

theorem bits01 : Go.bits BinOp.and IntKind.i64 0 1 = 0 := by decide +kernel
theorem bits11 : Go.bits BinOp.and IntKind.i64 1 1 = 1 := by decide +kernel

theorem tinst_f_tr (gd : Bool) (n ls va vo v : Int) (hc : ∀ w, Calls Tryz.prog 70 #[.agg #[.int .i64 0, .bool true, .int .i64 n, .int .i64 ls, .int .i64 va, .int .i64 vo, .bool true, .bool gd]] w fun e w' => e = .returned (.bool true) ∧ Below w.heap.size w w') (w : World) : Calls Tryz.prog 38 #[.agg #[.int .i64 0, .bool true, .int .i64 n, .int .i64 ls, .int .i64 va, .int .i64 vo, .bool true, .bool gd], .int .i64 v] w fun e w' => e = .returned (.tuple #[.agg #[.int .i64 0, .bool false, .int .i64 0, .int .i64 0, .int .i64 0, .int .i64 0, .bool false, .bool false], .int .i64 211]) ∧ Below w.heap.size w w' := by
  have hb0 := bits01
  have hb1 := bits11
  go_enter Tryz.func38, Tryz.ntmps38
  go_wp2_with fail
  refine (hc _).mono ?_
  rintro e w1 ⟨rfl, hB⟩
  obtain ⟨k1, k2, hB⟩ := two8 hB
  obtain ⟨a0, a1, a2, a3, a4, a5, a6, a7⟩ := cells8 k1
  obtain ⟨b0, b1, b2, b3, b4, b5, b6, b7⟩ := cells8 k2
  have fa := fun i => Blk.free k1 i
  have fb := fun i => Blk.free k2 i
  have K1 := Lib.hid k1
  have K2 := Lib.hid k2
  have HB := Lib.hid hB
  clear hB k1 k2
  go_wp2_with fail
  refine bodyPost_ret (results_ct (p := 4) (u := 5) (ty := 32) (by kernel_rfl) _ _ (w.heap.size + 1) 32 #[.int .i64 0, .bool false, .int .i64 0, .int .i64 0, .int .i64 0, .int .i64 0, .bool false, .bool false] _ rfl (blk_put8 K2.out (.int .i64 0) (.bool false) (.int .i64 0) (.int .i64 0) (.int .i64 0) (.int .i64 0) (.bool false) (.bool false)) Tryz.underlying32 rfl (by kernel_rfl)) rfl ?_
  exact ⟨rfl, below_put8 HB.out (by omega) _ _ _ _ _ _ _ _⟩

theorem tinst_f_old (gd : Bool) (n ls va vo v : Int) (hc : ∀ w, Calls Tryz.prog 70 #[.agg #[.int .i64 0, .bool false, .int .i64 n, .int .i64 ls, .int .i64 va, .int .i64 vo, .bool true, .bool gd]] w fun e w' => e = .returned (.bool true) ∧ Below w.heap.size w w') (h1 : decide (v < ls) = true) (w : World) : Calls Tryz.prog 38 #[.agg #[.int .i64 0, .bool false, .int .i64 n, .int .i64 ls, .int .i64 va, .int .i64 vo, .bool true, .bool gd], .int .i64 v] w fun e w' => e = .returned (.tuple #[.agg #[.int .i64 0, .bool false, .int .i64 0, .int .i64 0, .int .i64 0, .int .i64 0, .bool false, .bool false], .int .i64 210]) ∧ Below w.heap.size w w' := by
  have hb0 := bits01
  have hb1 := bits11
  go_enter Tryz.func38, Tryz.ntmps38
  go_wp2_with fail
  refine (hc _).mono ?_
  rintro e w1 ⟨rfl, hB⟩
  obtain ⟨k1, k2, hB⟩ := two8 hB
  obtain ⟨a0, a1, a2, a3, a4, a5, a6, a7⟩ := cells8 k1
  obtain ⟨b0, b1, b2, b3, b4, b5, b6, b7⟩ := cells8 k2
  have fa := fun i => Blk.free k1 i
  have fb := fun i => Blk.free k2 i
  have K1 := Lib.hid k1
  have K2 := Lib.hid k2
  have HB := Lib.hid hB
  clear hB k1 k2
  go_wp2_with fail
  refine bodyPost_ret (results_ct (p := 4) (u := 5) (ty := 32) (by kernel_rfl) _ _ (w.heap.size + 1) 32 #[.int .i64 0, .bool false, .int .i64 0, .int .i64 0, .int .i64 0, .int .i64 0, .bool false, .bool false] _ rfl (blk_put8 K2.out (.int .i64 0) (.bool false) (.int .i64 0) (.int .i64 0) (.int .i64 0) (.int .i64 0) (.bool false) (.bool false)) Tryz.underlying32 rfl (by kernel_rfl)) rfl ?_
  exact ⟨rfl, below_put8 HB.out (by omega) _ _ _ _ _ _ _ _⟩

theorem tinst_f_far (gd : Bool) (n ls va vo v : Int) (hc : ∀ w, Calls Tryz.prog 70 #[.agg #[.int .i64 0, .bool false, .int .i64 n, .int .i64 ls, .int .i64 va, .int .i64 vo, .bool true, .bool gd]] w fun e w' => e = .returned (.bool true) ∧ Below w.heap.size w w') (h1 : decide (v < ls) = false) (h2 : decide (1073741824 < v) = true) (w : World) : Calls Tryz.prog 38 #[.agg #[.int .i64 0, .bool false, .int .i64 n, .int .i64 ls, .int .i64 va, .int .i64 vo, .bool true, .bool gd], .int .i64 v] w fun e w' => e = .returned (.tuple #[.agg #[.int .i64 0, .bool false, .int .i64 0, .int .i64 0, .int .i64 0, .int .i64 0, .bool false, .bool false], .int .i64 1]) ∧ Below w.heap.size w w' := by
  have hb0 := bits01
  have hb1 := bits11
  go_enter Tryz.func38, Tryz.ntmps38
  go_wp2_with fail
  refine (hc _).mono ?_
  rintro e w1 ⟨rfl, hB⟩
  obtain ⟨k1, k2, hB⟩ := two8 hB
  obtain ⟨a0, a1, a2, a3, a4, a5, a6, a7⟩ := cells8 k1
  obtain ⟨b0, b1, b2, b3, b4, b5, b6, b7⟩ := cells8 k2
  have fa := fun i => Blk.free k1 i
  have fb := fun i => Blk.free k2 i
  have K1 := Lib.hid k1
  have K2 := Lib.hid k2
  have HB := Lib.hid hB
  clear hB k1 k2
  go_wp2_with fail
  refine bodyPost_ret (results_ct (p := 4) (u := 5) (ty := 32) (by kernel_rfl) _ _ (w.heap.size + 1) 32 #[.int .i64 0, .bool false, .int .i64 0, .int .i64 0, .int .i64 0, .int .i64 0, .bool false, .bool false] _ rfl (blk_put8 K2.out (.int .i64 0) (.bool false) (.int .i64 0) (.int .i64 0) (.int .i64 0) (.int .i64 0) (.bool false) (.bool false)) Tryz.underlying32 rfl (by kernel_rfl)) rfl ?_
  exact ⟨rfl, below_put8 HB.out (by omega) _ _ _ _ _ _ _ _⟩

theorem tinst_f_ok (gd : Bool) (n ls va vo v : Int) (hc : ∀ w, Calls Tryz.prog 70 #[.agg #[.int .i64 0, .bool false, .int .i64 n, .int .i64 ls, .int .i64 va, .int .i64 vo, .bool true, .bool gd]] w fun e w' => e = .returned (.bool true) ∧ Below w.heap.size w w') (h1 : decide (v < ls) = false) (h2 : decide (1073741824 < v) = false) (w : World) : Calls Tryz.prog 38 #[.agg #[.int .i64 0, .bool false, .int .i64 n, .int .i64 ls, .int .i64 va, .int .i64 vo, .bool true, .bool gd], .int .i64 v] w fun e w' => e = .returned (.tuple #[.agg #[.int .i64 0, .bool false, .int .i64 n, .int .i64 ls, .int .i64 va, .int .i64 v, .bool true, .bool false], .int .i64 0]) ∧ Below w.heap.size w w' := by
  have hb0 := bits01
  have hb1 := bits11
  go_enter Tryz.func38, Tryz.ntmps38
  go_wp2_with fail
  refine (hc _).mono ?_
  rintro e w1 ⟨rfl, hB⟩
  obtain ⟨k1, k2, hB⟩ := two8 hB
  obtain ⟨a0, a1, a2, a3, a4, a5, a6, a7⟩ := cells8 k1
  obtain ⟨b0, b1, b2, b3, b4, b5, b6, b7⟩ := cells8 k2
  have fa := fun i => Blk.free k1 i
  have fb := fun i => Blk.free k2 i
  have K1 := Lib.hid k1
  have K2 := Lib.hid k2
  have HB := Lib.hid hB
  clear hB k1 k2
  go_wp2_with fail
  refine bodyPost_ret (results_ct (p := 4) (u := 5) (ty := 32) (by kernel_rfl) _ _ (w.heap.size + 1) 32 #[.int .i64 0, .bool false, .int .i64 n, .int .i64 ls, .int .i64 va, .int .i64 v, .bool true, .bool false] _ rfl (blk_put8 (Blk.far (Blk.far K2.out (p := ⟨w.heap.size, 7, none⟩) (by simp) (.bool false)) (p := ⟨w.heap.size, 5, none⟩) (by simp) (.int .i64 v)) (.int .i64 0) (.bool false) (.int .i64 n) (.int .i64 ls) (.int .i64 va) (.int .i64 v) (.bool true) (.bool false)) Tryz.underlying32 rfl (by kernel_rfl)) rfl ?_
  exact ⟨rfl, below_put8 (Below.setCell (Below.setCell HB.out (p := ⟨w.heap.size, 7, none⟩) (Nat.le_refl _) (.bool false)) (p := ⟨w.heap.size, 5, none⟩) (Nat.le_refl _) (.int .i64 v)) (by omega) _ _ _ _ _ _ _ _⟩

theorem tready_f_tr (gd : Bool) (n ls va vo : Int) (hc : ∀ w, Calls Tryz.prog 70 #[.agg #[.int .i64 0, .bool true, .int .i64 n, .int .i64 ls, .int .i64 va, .int .i64 vo, .bool true, .bool gd]] w fun e w' => e = .returned (.bool true) ∧ Below w.heap.size w w') (w : World) : Calls Tryz.prog 46 #[.agg #[.int .i64 0, .bool true, .int .i64 n, .int .i64 ls, .int .i64 va, .int .i64 vo, .bool true, .bool gd]] w fun e w' => e = .returned (.tuple #[.agg #[.int .i64 0, .bool false, .int .i64 0, .int .i64 0, .int .i64 0, .int .i64 0, .bool false, .bool false], .int .i64 211]) ∧ Below w.heap.size w w' := by
  have hb0 := bits01
  have hb1 := bits11
  go_enter Tryz.func46, Tryz.ntmps46
  go_wp2_with fail
  refine (hc _).mono ?_
  rintro e w1 ⟨rfl, hB⟩
  obtain ⟨k1, k2, hB⟩ := two8 hB
  obtain ⟨a0, a1, a2, a3, a4, a5, a6, a7⟩ := cells8 k1
  obtain ⟨b0, b1, b2, b3, b4, b5, b6, b7⟩ := cells8 k2
  have fa := fun i => Blk.free k1 i
  have fb := fun i => Blk.free k2 i
  have K1 := Lib.hid k1
  have K2 := Lib.hid k2
  have HB := Lib.hid hB
  clear hB k1 k2
  go_wp2_with fail
  refine bodyPost_ret (results_ct (p := 2) (u := 3) (ty := 32) (by kernel_rfl) _ _ (w.heap.size + 1) 32 #[.int .i64 0, .bool false, .int .i64 0, .int .i64 0, .int .i64 0, .int .i64 0, .bool false, .bool false] _ rfl (blk_put8 K2.out (.int .i64 0) (.bool false) (.int .i64 0) (.int .i64 0) (.int .i64 0) (.int .i64 0) (.bool false) (.bool false)) Tryz.underlying32 rfl (by kernel_rfl)) rfl ?_
  exact ⟨rfl, below_put8 HB.out (by omega) _ _ _ _ _ _ _ _⟩

theorem tready_f_old (gd : Bool) (n ls va vo : Int) (hc : ∀ w, Calls Tryz.prog 70 #[.agg #[.int .i64 0, .bool false, .int .i64 n, .int .i64 ls, .int .i64 va, .int .i64 vo, .bool true, .bool gd]] w fun e w' => e = .returned (.bool true) ∧ Below w.heap.size w w') (h1 : decide (vo < ls) = true) (w : World) : Calls Tryz.prog 46 #[.agg #[.int .i64 0, .bool false, .int .i64 n, .int .i64 ls, .int .i64 va, .int .i64 vo, .bool true, .bool gd]] w fun e w' => e = .returned (.tuple #[.agg #[.int .i64 0, .bool false, .int .i64 0, .int .i64 0, .int .i64 0, .int .i64 0, .bool false, .bool false], .int .i64 210]) ∧ Below w.heap.size w w' := by
  have hb0 := bits01
  have hb1 := bits11
  go_enter Tryz.func46, Tryz.ntmps46
  go_wp2_with fail
  refine (hc _).mono ?_
  rintro e w1 ⟨rfl, hB⟩
  obtain ⟨k1, k2, hB⟩ := two8 hB
  obtain ⟨a0, a1, a2, a3, a4, a5, a6, a7⟩ := cells8 k1
  obtain ⟨b0, b1, b2, b3, b4, b5, b6, b7⟩ := cells8 k2
  have fa := fun i => Blk.free k1 i
  have fb := fun i => Blk.free k2 i
  have K1 := Lib.hid k1
  have K2 := Lib.hid k2
  have HB := Lib.hid hB
  clear hB k1 k2
  go_wp2_with fail
  go_quiet (fail)
  obtain ⟨w2, hw2⟩ : ∃ w2, w2 = w1.drewN nq := ⟨_, rfl⟩
  have hbq : Below w1.heap.size w1 w2 := by rw [hw2]; exact below_drewN (Below.refl _ _) nq
  rw [← hw2]
  have K1 := Lib.hid (K1.out.below hbq)
  have K2 := Lib.hid (K2.out.below hbq)
  have HB := Lib.hid (HB.out.trans (hbq.mono HB.out.size))
  clear hw2 hbq a0 a1 a2 a3 a4 a5 a6 a7 b0 b1 b2 b3 b4 b5 b6 b7 fa fb
  obtain ⟨a0, a1, a2, a3, a4, a5, a6, a7⟩ := cells8 K1.out
  obtain ⟨b0, b1, b2, b3, b4, b5, b6, b7⟩ := cells8 K2.out
  have fa := fun i => Blk.free K1.out i
  have fb := fun i => Blk.free K2.out i
  go_wp2_with fail
  refine bodyPost_ret (results_ct (p := 2) (u := 3) (ty := 32) (by kernel_rfl) _ _ (w.heap.size + 1) 32 #[.int .i64 0, .bool false, .int .i64 0, .int .i64 0, .int .i64 0, .int .i64 0, .bool false, .bool false] _ rfl (blk_put8 K2.out (.int .i64 0) (.bool false) (.int .i64 0) (.int .i64 0) (.int .i64 0) (.int .i64 0) (.bool false) (.bool false)) Tryz.underlying32 rfl (by kernel_rfl)) rfl ?_
  exact ⟨rfl, below_put8 HB.out (by omega) _ _ _ _ _ _ _ _⟩

theorem tready_f_ok (gd : Bool) (n ls va vo : Int) (hc : ∀ w, Calls Tryz.prog 70 #[.agg #[.int .i64 0, .bool false, .int .i64 n, .int .i64 ls, .int .i64 va, .int .i64 vo, .bool true, .bool gd]] w fun e w' => e = .returned (.bool true) ∧ Below w.heap.size w w') (h1 : decide (vo < ls) = false) (w : World) : Calls Tryz.prog 46 #[.agg #[.int .i64 0, .bool false, .int .i64 n, .int .i64 ls, .int .i64 va, .int .i64 vo, .bool true, .bool gd]] w fun e w' => e = .returned (.tuple #[.agg #[.int .i64 0, .bool false, .int .i64 n, .int .i64 ls, .int .i64 va, .int .i64 vo, .bool true, .bool true], .int .i64 0]) ∧ Below w.heap.size w w' := by
  have hb0 := bits01
  have hb1 := bits11
  go_enter Tryz.func46, Tryz.ntmps46
  go_wp2_with fail
  refine (hc _).mono ?_
  rintro e w1 ⟨rfl, hB⟩
  obtain ⟨k1, k2, hB⟩ := two8 hB
  obtain ⟨a0, a1, a2, a3, a4, a5, a6, a7⟩ := cells8 k1
  obtain ⟨b0, b1, b2, b3, b4, b5, b6, b7⟩ := cells8 k2
  have fa := fun i => Blk.free k1 i
  have fb := fun i => Blk.free k2 i
  have K1 := Lib.hid k1
  have K2 := Lib.hid k2
  have HB := Lib.hid hB
  clear hB k1 k2
  go_wp2_with fail
  go_quiet (fail)
  obtain ⟨w2, hw2⟩ : ∃ w2, w2 = w1.drewN nq := ⟨_, rfl⟩
  have hbq : Below w1.heap.size w1 w2 := by rw [hw2]; exact below_drewN (Below.refl _ _) nq
  rw [← hw2]
  have K1 := Lib.hid (K1.out.below hbq)
  have K2 := Lib.hid (K2.out.below hbq)
  have HB := Lib.hid (HB.out.trans (hbq.mono HB.out.size))
  clear hw2 hbq a0 a1 a2 a3 a4 a5 a6 a7 b0 b1 b2 b3 b4 b5 b6 b7 fa fb
  obtain ⟨a0, a1, a2, a3, a4, a5, a6, a7⟩ := cells8 K1.out
  obtain ⟨b0, b1, b2, b3, b4, b5, b6, b7⟩ := cells8 K2.out
  have fa := fun i => Blk.free K1.out i
  have fb := fun i => Blk.free K2.out i
  go_wp2_with fail
  refine bodyPost_ret (results_ct (p := 2) (u := 3) (ty := 32) (by kernel_rfl) _ _ (w.heap.size + 1) 32 #[.int .i64 0, .bool false, .int .i64 n, .int .i64 ls, .int .i64 va, .int .i64 vo, .bool true, .bool true] _ rfl (blk_put8 (Blk.far K2.out (p := ⟨w.heap.size, 7, none⟩) (by simp) (.bool true)) (.int .i64 0) (.bool false) (.int .i64 n) (.int .i64 ls) (.int .i64 va) (.int .i64 vo) (.bool true) (.bool true)) Tryz.underlying32 rfl (by kernel_rfl)) rfl ?_
  exact ⟨rfl, below_put8 (Below.setCell HB.out (p := ⟨w.heap.size, 7, none⟩) (Nat.le_refl _) (.bool true)) (by omega) _ _ _ _ _ _ _ _⟩

theorem tswitch_f_lo (tr : Bool) (gd : Bool) (n ls va vo t : Int) (hc : ∀ w, Calls Tryz.prog 70 #[.agg #[.int .i64 0, .bool tr, .int .i64 n, .int .i64 ls, .int .i64 va, .int .i64 vo, .bool true, .bool gd]] w fun e w' => e = .returned (.bool true) ∧ Below w.heap.size w w') (h1 : decide (t < 1) = true) (w : World) : Calls Tryz.prog 49 #[.agg #[.int .i64 0, .bool tr, .int .i64 n, .int .i64 ls, .int .i64 va, .int .i64 vo, .bool true, .bool gd], .int .i64 t] w fun e w' => e = .returned (.tuple #[.agg #[.int .i64 0, .bool false, .int .i64 0, .int .i64 0, .int .i64 0, .int .i64 0, .bool false, .bool false], .int .i64 1]) ∧ Below w.heap.size w w' := by
  have hb0 := bits01
  have hb1 := bits11
  go_enter Tryz.func49, Tryz.ntmps49
  go_wp2_with fail
  refine (hc _).mono ?_
  rintro e w1 ⟨rfl, hB⟩
  obtain ⟨k1, k2, hB⟩ := two8 hB
  obtain ⟨a0, a1, a2, a3, a4, a5, a6, a7⟩ := cells8 k1
  obtain ⟨b0, b1, b2, b3, b4, b5, b6, b7⟩ := cells8 k2
  have fa := fun i => Blk.free k1 i
  have fb := fun i => Blk.free k2 i
  have K1 := Lib.hid k1
  have K2 := Lib.hid k2
  have HB := Lib.hid hB
  clear hB k1 k2
  go_wp2_with fail
  refine bodyPost_ret (results_ct (p := 4) (u := 5) (ty := 32) (by kernel_rfl) _ _ (w.heap.size + 1) 32 #[.int .i64 0, .bool false, .int .i64 0, .int .i64 0, .int .i64 0, .int .i64 0, .bool false, .bool false] _ rfl (blk_put8 K2.out (.int .i64 0) (.bool false) (.int .i64 0) (.int .i64 0) (.int .i64 0) (.int .i64 0) (.bool false) (.bool false)) Tryz.underlying32 rfl (by kernel_rfl)) rfl ?_
  exact ⟨rfl, below_put8 HB.out (by omega) _ _ _ _ _ _ _ _⟩

theorem tswitch_f_hi (tr : Bool) (gd : Bool) (n ls va vo t : Int) (hc : ∀ w, Calls Tryz.prog 70 #[.agg #[.int .i64 0, .bool tr, .int .i64 n, .int .i64 ls, .int .i64 va, .int .i64 vo, .bool true, .bool gd]] w fun e w' => e = .returned (.bool true) ∧ Below w.heap.size w w') (h1 : decide (t < 1) = false) (h2 : decide (7 < t) = true) (w : World) : Calls Tryz.prog 49 #[.agg #[.int .i64 0, .bool tr, .int .i64 n, .int .i64 ls, .int .i64 va, .int .i64 vo, .bool true, .bool gd], .int .i64 t] w fun e w' => e = .returned (.tuple #[.agg #[.int .i64 0, .bool false, .int .i64 0, .int .i64 0, .int .i64 0, .int .i64 0, .bool false, .bool false], .int .i64 1]) ∧ Below w.heap.size w w' := by
  have hb0 := bits01
  have hb1 := bits11
  go_enter Tryz.func49, Tryz.ntmps49
  go_wp2_with fail
  refine (hc _).mono ?_
  rintro e w1 ⟨rfl, hB⟩
  obtain ⟨k1, k2, hB⟩ := two8 hB
  obtain ⟨a0, a1, a2, a3, a4, a5, a6, a7⟩ := cells8 k1
  obtain ⟨b0, b1, b2, b3, b4, b5, b6, b7⟩ := cells8 k2
  have fa := fun i => Blk.free k1 i
  have fb := fun i => Blk.free k2 i
  have K1 := Lib.hid k1
  have K2 := Lib.hid k2
  have HB := Lib.hid hB
  clear hB k1 k2
  go_wp2_with fail
  refine bodyPost_ret (results_ct (p := 4) (u := 5) (ty := 32) (by kernel_rfl) _ _ (w.heap.size + 1) 32 #[.int .i64 0, .bool false, .int .i64 0, .int .i64 0, .int .i64 0, .int .i64 0, .bool false, .bool false] _ rfl (blk_put8 K2.out (.int .i64 0) (.bool false) (.int .i64 0) (.int .i64 0) (.int .i64 0) (.int .i64 0) (.bool false) (.bool false)) Tryz.underlying32 rfl (by kernel_rfl)) rfl ?_
  exact ⟨rfl, below_put8 HB.out (by omega) _ _ _ _ _ _ _ _⟩

theorem tswitch_f_tr (gd : Bool) (n ls va vo t : Int) (hc : ∀ w, Calls Tryz.prog 70 #[.agg #[.int .i64 0, .bool true, .int .i64 n, .int .i64 ls, .int .i64 va, .int .i64 vo, .bool true, .bool gd]] w fun e w' => e = .returned (.bool true) ∧ Below w.heap.size w w') (h1 : decide (t < 1) = false) (h2 : decide (7 < t) = false) (w : World) : Calls Tryz.prog 49 #[.agg #[.int .i64 0, .bool true, .int .i64 n, .int .i64 ls, .int .i64 va, .int .i64 vo, .bool true, .bool gd], .int .i64 t] w fun e w' => e = .returned (.tuple #[.agg #[.int .i64 0, .bool false, .int .i64 0, .int .i64 0, .int .i64 0, .int .i64 0, .bool false, .bool false], .int .i64 211]) ∧ Below w.heap.size w w' := by
  have hb0 := bits01
  have hb1 := bits11
  go_enter Tryz.func49, Tryz.ntmps49
  go_wp2_with fail
  refine (hc _).mono ?_
  rintro e w1 ⟨rfl, hB⟩
  obtain ⟨k1, k2, hB⟩ := two8 hB
  obtain ⟨a0, a1, a2, a3, a4, a5, a6, a7⟩ := cells8 k1
  obtain ⟨b0, b1, b2, b3, b4, b5, b6, b7⟩ := cells8 k2
  have fa := fun i => Blk.free k1 i
  have fb := fun i => Blk.free k2 i
  have K1 := Lib.hid k1
  have K2 := Lib.hid k2
  have HB := Lib.hid hB
  clear hB k1 k2
  go_wp2_with fail
  refine bodyPost_ret (results_ct (p := 4) (u := 5) (ty := 32) (by kernel_rfl) _ _ (w.heap.size + 1) 32 #[.int .i64 0, .bool false, .int .i64 0, .int .i64 0, .int .i64 0, .int .i64 0, .bool false, .bool false] _ rfl (blk_put8 K2.out (.int .i64 0) (.bool false) (.int .i64 0) (.int .i64 0) (.int .i64 0) (.int .i64 0) (.bool false) (.bool false)) Tryz.underlying32 rfl (by kernel_rfl)) rfl ?_
  exact ⟨rfl, below_put8 HB.out (by omega) _ _ _ _ _ _ _ _⟩

theorem tswitch_f_no (n ls va vo t : Int) (hc : ∀ w, Calls Tryz.prog 70 #[.agg #[.int .i64 0, .bool false, .int .i64 n, .int .i64 ls, .int .i64 va, .int .i64 vo, .bool true, .bool false]] w fun e w' => e = .returned (.bool true) ∧ Below w.heap.size w w') (h1 : decide (t < 1) = false) (h2 : decide (7 < t) = false) (w : World) : Calls Tryz.prog 49 #[.agg #[.int .i64 0, .bool false, .int .i64 n, .int .i64 ls, .int .i64 va, .int .i64 vo, .bool true, .bool false], .int .i64 t] w fun e w' => e = .returned (.tuple #[.agg #[.int .i64 0, .bool false, .int .i64 0, .int .i64 0, .int .i64 0, .int .i64 0, .bool false, .bool false], .int .i64 212]) ∧ Below w.heap.size w w' := by
  have hb0 := bits01
  have hb1 := bits11
  go_enter Tryz.func49, Tryz.ntmps49
  go_wp2_with fail
  refine (hc _).mono ?_
  rintro e w1 ⟨rfl, hB⟩
  obtain ⟨k1, k2, hB⟩ := two8 hB
  obtain ⟨a0, a1, a2, a3, a4, a5, a6, a7⟩ := cells8 k1
  obtain ⟨b0, b1, b2, b3, b4, b5, b6, b7⟩ := cells8 k2
  have fa := fun i => Blk.free k1 i
  have fb := fun i => Blk.free k2 i
  have K1 := Lib.hid k1
  have K2 := Lib.hid k2
  have HB := Lib.hid hB
  clear hB k1 k2
  go_wp2_with fail
  refine bodyPost_ret (results_ct (p := 4) (u := 5) (ty := 32) (by kernel_rfl) _ _ (w.heap.size + 1) 32 #[.int .i64 0, .bool false, .int .i64 0, .int .i64 0, .int .i64 0, .int .i64 0, .bool false, .bool false] _ rfl (blk_put8 K2.out (.int .i64 0) (.bool false) (.int .i64 0) (.int .i64 0) (.int .i64 0) (.int .i64 0) (.bool false) (.bool false)) Tryz.underlying32 rfl (by kernel_rfl)) rfl ?_
  exact ⟨rfl, below_put8 HB.out (by omega) _ _ _ _ _ _ _ _⟩

theorem tswitch_f_old (n ls va vo t : Int) (hc : ∀ w, Calls Tryz.prog 70 #[.agg #[.int .i64 0, .bool false, .int .i64 n, .int .i64 ls, .int .i64 va, .int .i64 vo, .bool true, .bool true]] w fun e w' => e = .returned (.bool true) ∧ Below w.heap.size w w') (h1 : decide (t < 1) = false) (h2 : decide (7 < t) = false) (h3 : decide (vo < ls) = true) (w : World) : Calls Tryz.prog 49 #[.agg #[.int .i64 0, .bool false, .int .i64 n, .int .i64 ls, .int .i64 va, .int .i64 vo, .bool true, .bool true], .int .i64 t] w fun e w' => e = .returned (.tuple #[.agg #[.int .i64 0, .bool false, .int .i64 0, .int .i64 0, .int .i64 0, .int .i64 0, .bool false, .bool false], .int .i64 210]) ∧ Below w.heap.size w w' := by
  have hb0 := bits01
  have hb1 := bits11
  go_enter Tryz.func49, Tryz.ntmps49
  go_wp2_with fail
  refine (hc _).mono ?_
  rintro e w1 ⟨rfl, hB⟩
  obtain ⟨k1, k2, hB⟩ := two8 hB
  obtain ⟨a0, a1, a2, a3, a4, a5, a6, a7⟩ := cells8 k1
  obtain ⟨b0, b1, b2, b3, b4, b5, b6, b7⟩ := cells8 k2
  have fa := fun i => Blk.free k1 i
  have fb := fun i => Blk.free k2 i
  have K1 := Lib.hid k1
  have K2 := Lib.hid k2
  have HB := Lib.hid hB
  clear hB k1 k2
  go_wp2_with fail
  go_quiet (fail)
  obtain ⟨w2, hw2⟩ : ∃ w2, w2 = w1.drewN nq := ⟨_, rfl⟩
  have hbq : Below w1.heap.size w1 w2 := by rw [hw2]; exact below_drewN (Below.refl _ _) nq
  rw [← hw2]
  have K1 := Lib.hid (K1.out.below hbq)
  have K2 := Lib.hid (K2.out.below hbq)
  have HB := Lib.hid (HB.out.trans (hbq.mono HB.out.size))
  clear hw2 hbq a0 a1 a2 a3 a4 a5 a6 a7 b0 b1 b2 b3 b4 b5 b6 b7 fa fb
  obtain ⟨a0, a1, a2, a3, a4, a5, a6, a7⟩ := cells8 K1.out
  obtain ⟨b0, b1, b2, b3, b4, b5, b6, b7⟩ := cells8 K2.out
  have fa := fun i => Blk.free K1.out i
  have fb := fun i => Blk.free K2.out i
  go_wp2_with fail
  refine bodyPost_ret (results_ct (p := 4) (u := 5) (ty := 32) (by kernel_rfl) _ _ (w.heap.size + 1) 32 #[.int .i64 0, .bool false, .int .i64 0, .int .i64 0, .int .i64 0, .int .i64 0, .bool false, .bool false] _ rfl (blk_put8 K2.out (.int .i64 0) (.bool false) (.int .i64 0) (.int .i64 0) (.int .i64 0) (.int .i64 0) (.bool false) (.bool false)) Tryz.underlying32 rfl (by kernel_rfl)) rfl ?_
  exact ⟨rfl, below_put8 HB.out (by omega) _ _ _ _ _ _ _ _⟩

theorem tswitch_f_ok (n ls va vo t : Int) (hc : ∀ w, Calls Tryz.prog 70 #[.agg #[.int .i64 0, .bool false, .int .i64 n, .int .i64 ls, .int .i64 va, .int .i64 vo, .bool true, .bool true]] w fun e w' => e = .returned (.bool true) ∧ Below w.heap.size w w') (h1 : decide (t < 1) = false) (h2 : decide (7 < t) = false) (h3 : decide (vo < ls) = false) (w : World) : Calls Tryz.prog 49 #[.agg #[.int .i64 0, .bool false, .int .i64 n, .int .i64 ls, .int .i64 va, .int .i64 vo, .bool true, .bool true], .int .i64 t] w fun e w' => e = .returned (.tuple #[.agg #[.int .i64 1, .bool true, .int .i64 t, .int .i64 ls, .int .i64 va, .int .i64 vo, .bool true, .bool true], .int .i64 0]) ∧ Below w.heap.size w w' := by
  have hb0 := bits01
  have hb1 := bits11
  go_enter Tryz.func49, Tryz.ntmps49
  go_wp2_with fail
  refine (hc _).mono ?_
  rintro e w1 ⟨rfl, hB⟩
  obtain ⟨k1, k2, hB⟩ := two8 hB
  obtain ⟨a0, a1, a2, a3, a4, a5, a6, a7⟩ := cells8 k1
  obtain ⟨b0, b1, b2, b3, b4, b5, b6, b7⟩ := cells8 k2
  have fa := fun i => Blk.free k1 i
  have fb := fun i => Blk.free k2 i
  have K1 := Lib.hid k1
  have K2 := Lib.hid k2
  have HB := Lib.hid hB
  clear hB k1 k2
  go_wp2_with fail
  go_quiet (fail)
  obtain ⟨w2, hw2⟩ : ∃ w2, w2 = w1.drewN nq := ⟨_, rfl⟩
  have hbq : Below w1.heap.size w1 w2 := by rw [hw2]; exact below_drewN (Below.refl _ _) nq
  rw [← hw2]
  have K1 := Lib.hid (K1.out.below hbq)
  have K2 := Lib.hid (K2.out.below hbq)
  have HB := Lib.hid (HB.out.trans (hbq.mono HB.out.size))
  clear hw2 hbq a0 a1 a2 a3 a4 a5 a6 a7 b0 b1 b2 b3 b4 b5 b6 b7 fa fb
  obtain ⟨a0, a1, a2, a3, a4, a5, a6, a7⟩ := cells8 K1.out
  obtain ⟨b0, b1, b2, b3, b4, b5, b6, b7⟩ := cells8 K2.out
  have fa := fun i => Blk.free K1.out i
  have fb := fun i => Blk.free K2.out i
  go_wp2_with fail
  refine bodyPost_ret (results_ct (p := 4) (u := 5) (ty := 32) (by kernel_rfl) _ _ (w.heap.size + 1) 32 #[.int .i64 1, .bool true, .int .i64 t, .int .i64 ls, .int .i64 va, .int .i64 vo, .bool true, .bool true] _ rfl (blk_put8 (Blk.far (Blk.far (Blk.far K2.out (p := ⟨w.heap.size, 0, none⟩) (by simp) (.int .i64 1)) (p := ⟨w.heap.size, 1, none⟩) (by simp) (.bool true)) (p := ⟨w.heap.size, 2, none⟩) (by simp) (.int .i64 t)) (.int .i64 1) (.bool true) (.int .i64 t) (.int .i64 ls) (.int .i64 va) (.int .i64 vo) (.bool true) (.bool true)) Tryz.underlying32 rfl (by kernel_rfl)) rfl ?_
  exact ⟨rfl, below_put8 (Below.setCell (Below.setCell (Below.setCell HB.out (p := ⟨w.heap.size, 0, none⟩) (Nat.le_refl _) (.int .i64 1)) (p := ⟨w.heap.size, 1, none⟩) (Nat.le_refl _) (.bool true)) (p := ⟨w.heap.size, 2, none⟩) (Nat.le_refl _) (.int .i64 t)) (by omega) _ _ _ _ _ _ _ _⟩

theorem tstate_f_last (ls va vo : Int) (gd : Bool) (w : World) : Calls Tryz.prog 76 #[.agg #[.int .i64 0, .bool true, .int .i64 0, .int .i64 ls, .int .i64 va, .int .i64 vo, .bool true, .bool gd]] w fun e w' => e = .returned (.int .i64 3) ∧ Below w.heap.size w w' := by
  have HB := Lib.hid ((Below.refl w.heap.size w).alloc (Nat.le_refl _) (.cells #[.int .i64 0, .bool true, .int .i64 0, .int .i64 ls, .int .i64 va, .int .i64 vo, .bool true, .bool gd] 32))
  have hb0 := bits01
  have hb1 := bits11
  go_enter Tryz.func76, Tryz.ntmps76
  go_wp2_with fail
  go_ret
  exact ⟨rfl, HB.out⟩

theorem tstate_f_trial (ls va vo : Int) (n : Int) (gd : Bool) (h : (n == 0) = false) (w : World) : Calls Tryz.prog 76 #[.agg #[.int .i64 0, .bool true, .int .i64 n, .int .i64 ls, .int .i64 va, .int .i64 vo, .bool true, .bool gd]] w fun e w' => e = .returned (.int .i64 2) ∧ Below w.heap.size w w' := by
  have HB := Lib.hid ((Below.refl w.heap.size w).alloc (Nat.le_refl _) (.cells #[.int .i64 0, .bool true, .int .i64 n, .int .i64 ls, .int .i64 va, .int .i64 vo, .bool true, .bool gd] 32))
  have hb0 := bits01
  have hb1 := bits11
  go_enter Tryz.func76, Tryz.ntmps76
  go_wp2_with fail
  go_ret
  exact ⟨rfl, HB.out⟩

theorem tstate_f_ready (ls va vo : Int) (n : Int) (w : World) : Calls Tryz.prog 76 #[.agg #[.int .i64 0, .bool false, .int .i64 n, .int .i64 ls, .int .i64 va, .int .i64 vo, .bool true, .bool true]] w fun e w' => e = .returned (.int .i64 1) ∧ Below w.heap.size w w' := by
  have HB := Lib.hid ((Below.refl w.heap.size w).alloc (Nat.le_refl _) (.cells #[.int .i64 0, .bool false, .int .i64 n, .int .i64 ls, .int .i64 va, .int .i64 vo, .bool true, .bool true] 32))
  have hb0 := bits01
  have hb1 := bits11
  go_enter Tryz.func76, Tryz.ntmps76
  go_wp2_with fail
  go_ret
  exact ⟨rfl, HB.out⟩

theorem tstate_f_plain (ls va vo : Int) (n : Int) (w : World) : Calls Tryz.prog 76 #[.agg #[.int .i64 0, .bool false, .int .i64 n, .int .i64 ls, .int .i64 va, .int .i64 vo, .bool true, .bool false]] w fun e w' => e = .returned (.int .i64 0) ∧ Below w.heap.size w w' := by
  have HB := Lib.hid ((Below.refl w.heap.size w).alloc (Nat.le_refl _) (.cells #[.int .i64 0, .bool false, .int .i64 n, .int .i64 ls, .int .i64 va, .int .i64 vo, .bool true, .bool false] 32))
  have hb0 := bits01
  have hb1 := bits11
  go_enter Tryz.func76, Tryz.ntmps76
  go_wp2_with fail
  go_ret
  exact ⟨rfl, HB.out⟩

theorem tinst_t_tr (gd : Bool) (n ls va vo v : Int) (hc : ∀ w, Calls Tryz.prog 70 #[.agg #[.int .i64 1, .bool true, .int .i64 n, .int .i64 ls, .int .i64 vo, .int .i64 va, .bool gd, .bool true]] w fun e w' => e = .returned (.bool true) ∧ Below w.heap.size w w') (w : World) : Calls Tryz.prog 38 #[.agg #[.int .i64 1, .bool true, .int .i64 n, .int .i64 ls, .int .i64 vo, .int .i64 va, .bool gd, .bool true], .int .i64 v] w fun e w' => e = .returned (.tuple #[.agg #[.int .i64 0, .bool false, .int .i64 0, .int .i64 0, .int .i64 0, .int .i64 0, .bool false, .bool false], .int .i64 211]) ∧ Below w.heap.size w w' := by
  have hb0 := bits01
  have hb1 := bits11
  go_enter Tryz.func38, Tryz.ntmps38
  go_wp2_with fail
  refine (hc _).mono ?_
  rintro e w1 ⟨rfl, hB⟩
  obtain ⟨k1, k2, hB⟩ := two8 hB
  obtain ⟨a0, a1, a2, a3, a4, a5, a6, a7⟩ := cells8 k1
  obtain ⟨b0, b1, b2, b3, b4, b5, b6, b7⟩ := cells8 k2
  have fa := fun i => Blk.free k1 i
  have fb := fun i => Blk.free k2 i
  have K1 := Lib.hid k1
  have K2 := Lib.hid k2
  have HB := Lib.hid hB
  clear hB k1 k2
  go_wp2_with fail
  refine bodyPost_ret (results_ct (p := 4) (u := 5) (ty := 32) (by kernel_rfl) _ _ (w.heap.size + 1) 32 #[.int .i64 0, .bool false, .int .i64 0, .int .i64 0, .int .i64 0, .int .i64 0, .bool false, .bool false] _ rfl (blk_put8 K2.out (.int .i64 0) (.bool false) (.int .i64 0) (.int .i64 0) (.int .i64 0) (.int .i64 0) (.bool false) (.bool false)) Tryz.underlying32 rfl (by kernel_rfl)) rfl ?_
  exact ⟨rfl, below_put8 HB.out (by omega) _ _ _ _ _ _ _ _⟩

theorem tinst_t_old (gd : Bool) (n ls va vo v : Int) (hc : ∀ w, Calls Tryz.prog 70 #[.agg #[.int .i64 1, .bool false, .int .i64 n, .int .i64 ls, .int .i64 vo, .int .i64 va, .bool gd, .bool true]] w fun e w' => e = .returned (.bool true) ∧ Below w.heap.size w w') (h1 : decide (v < ls) = true) (w : World) : Calls Tryz.prog 38 #[.agg #[.int .i64 1, .bool false, .int .i64 n, .int .i64 ls, .int .i64 vo, .int .i64 va, .bool gd, .bool true], .int .i64 v] w fun e w' => e = .returned (.tuple #[.agg #[.int .i64 0, .bool false, .int .i64 0, .int .i64 0, .int .i64 0, .int .i64 0, .bool false, .bool false], .int .i64 210]) ∧ Below w.heap.size w w' := by
  have hb0 := bits01
  have hb1 := bits11
  go_enter Tryz.func38, Tryz.ntmps38
  go_wp2_with fail
  refine (hc _).mono ?_
  rintro e w1 ⟨rfl, hB⟩
  obtain ⟨k1, k2, hB⟩ := two8 hB
  obtain ⟨a0, a1, a2, a3, a4, a5, a6, a7⟩ := cells8 k1
  obtain ⟨b0, b1, b2, b3, b4, b5, b6, b7⟩ := cells8 k2
  have fa := fun i => Blk.free k1 i
  have fb := fun i => Blk.free k2 i
  have K1 := Lib.hid k1
  have K2 := Lib.hid k2
  have HB := Lib.hid hB
  clear hB k1 k2
  go_wp2_with fail
  refine bodyPost_ret (results_ct (p := 4) (u := 5) (ty := 32) (by kernel_rfl) _ _ (w.heap.size + 1) 32 #[.int .i64 0, .bool false, .int .i64 0, .int .i64 0, .int .i64 0, .int .i64 0, .bool false, .bool false] _ rfl (blk_put8 K2.out (.int .i64 0) (.bool false) (.int .i64 0) (.int .i64 0) (.int .i64 0) (.int .i64 0) (.bool false) (.bool false)) Tryz.underlying32 rfl (by kernel_rfl)) rfl ?_
  exact ⟨rfl, below_put8 HB.out (by omega) _ _ _ _ _ _ _ _⟩

theorem tinst_t_far (gd : Bool) (n ls va vo v : Int) (hc : ∀ w, Calls Tryz.prog 70 #[.agg #[.int .i64 1, .bool false, .int .i64 n, .int .i64 ls, .int .i64 vo, .int .i64 va, .bool gd, .bool true]] w fun e w' => e = .returned (.bool true) ∧ Below w.heap.size w w') (h1 : decide (v < ls) = false) (h2 : decide (1073741824 < v) = true) (w : World) : Calls Tryz.prog 38 #[.agg #[.int .i64 1, .bool false, .int .i64 n, .int .i64 ls, .int .i64 vo, .int .i64 va, .bool gd, .bool true], .int .i64 v] w fun e w' => e = .returned (.tuple #[.agg #[.int .i64 0, .bool false, .int .i64 0, .int .i64 0, .int .i64 0, .int .i64 0, .bool false, .bool false], .int .i64 1]) ∧ Below w.heap.size w w' := by
  have hb0 := bits01
  have hb1 := bits11
  go_enter Tryz.func38, Tryz.ntmps38
  go_wp2_with fail
  refine (hc _).mono ?_
  rintro e w1 ⟨rfl, hB⟩
  obtain ⟨k1, k2, hB⟩ := two8 hB
  obtain ⟨a0, a1, a2, a3, a4, a5, a6, a7⟩ := cells8 k1
  obtain ⟨b0, b1, b2, b3, b4, b5, b6, b7⟩ := cells8 k2
  have fa := fun i => Blk.free k1 i
  have fb := fun i => Blk.free k2 i
  have K1 := Lib.hid k1
  have K2 := Lib.hid k2
  have HB := Lib.hid hB
  clear hB k1 k2
  go_wp2_with fail
  refine bodyPost_ret (results_ct (p := 4) (u := 5) (ty := 32) (by kernel_rfl) _ _ (w.heap.size + 1) 32 #[.int .i64 0, .bool false, .int .i64 0, .int .i64 0, .int .i64 0, .int .i64 0, .bool false, .bool false] _ rfl (blk_put8 K2.out (.int .i64 0) (.bool false) (.int .i64 0) (.int .i64 0) (.int .i64 0) (.int .i64 0) (.bool false) (.bool false)) Tryz.underlying32 rfl (by kernel_rfl)) rfl ?_
  exact ⟨rfl, below_put8 HB.out (by omega) _ _ _ _ _ _ _ _⟩

theorem tinst_t_ok (gd : Bool) (n ls va vo v : Int) (hc : ∀ w, Calls Tryz.prog 70 #[.agg #[.int .i64 1, .bool false, .int .i64 n, .int .i64 ls, .int .i64 vo, .int .i64 va, .bool gd, .bool true]] w fun e w' => e = .returned (.bool true) ∧ Below w.heap.size w w') (h1 : decide (v < ls) = false) (h2 : decide (1073741824 < v) = false) (w : World) : Calls Tryz.prog 38 #[.agg #[.int .i64 1, .bool false, .int .i64 n, .int .i64 ls, .int .i64 vo, .int .i64 va, .bool gd, .bool true], .int .i64 v] w fun e w' => e = .returned (.tuple #[.agg #[.int .i64 1, .bool false, .int .i64 n, .int .i64 ls, .int .i64 v, .int .i64 va, .bool false, .bool true], .int .i64 0]) ∧ Below w.heap.size w w' := by
  have hb0 := bits01
  have hb1 := bits11
  go_enter Tryz.func38, Tryz.ntmps38
  go_wp2_with fail
  refine (hc _).mono ?_
  rintro e w1 ⟨rfl, hB⟩
  obtain ⟨k1, k2, hB⟩ := two8 hB
  obtain ⟨a0, a1, a2, a3, a4, a5, a6, a7⟩ := cells8 k1
  obtain ⟨b0, b1, b2, b3, b4, b5, b6, b7⟩ := cells8 k2
  have fa := fun i => Blk.free k1 i
  have fb := fun i => Blk.free k2 i
  have K1 := Lib.hid k1
  have K2 := Lib.hid k2
  have HB := Lib.hid hB
  clear hB k1 k2
  go_wp2_with fail
  refine bodyPost_ret (results_ct (p := 4) (u := 5) (ty := 32) (by kernel_rfl) _ _ (w.heap.size + 1) 32 #[.int .i64 1, .bool false, .int .i64 n, .int .i64 ls, .int .i64 v, .int .i64 va, .bool false, .bool true] _ rfl (blk_put8 (Blk.far (Blk.far K2.out (p := ⟨w.heap.size, 6, none⟩) (by simp) (.bool false)) (p := ⟨w.heap.size, 4, none⟩) (by simp) (.int .i64 v)) (.int .i64 1) (.bool false) (.int .i64 n) (.int .i64 ls) (.int .i64 v) (.int .i64 va) (.bool false) (.bool true)) Tryz.underlying32 rfl (by kernel_rfl)) rfl ?_
  exact ⟨rfl, below_put8 (Below.setCell (Below.setCell HB.out (p := ⟨w.heap.size, 6, none⟩) (Nat.le_refl _) (.bool false)) (p := ⟨w.heap.size, 4, none⟩) (Nat.le_refl _) (.int .i64 v)) (by omega) _ _ _ _ _ _ _ _⟩

theorem tready_t_tr (gd : Bool) (n ls va vo : Int) (hc : ∀ w, Calls Tryz.prog 70 #[.agg #[.int .i64 1, .bool true, .int .i64 n, .int .i64 ls, .int .i64 vo, .int .i64 va, .bool gd, .bool true]] w fun e w' => e = .returned (.bool true) ∧ Below w.heap.size w w') (w : World) : Calls Tryz.prog 46 #[.agg #[.int .i64 1, .bool true, .int .i64 n, .int .i64 ls, .int .i64 vo, .int .i64 va, .bool gd, .bool true]] w fun e w' => e = .returned (.tuple #[.agg #[.int .i64 0, .bool false, .int .i64 0, .int .i64 0, .int .i64 0, .int .i64 0, .bool false, .bool false], .int .i64 211]) ∧ Below w.heap.size w w' := by
  have hb0 := bits01
  have hb1 := bits11
  go_enter Tryz.func46, Tryz.ntmps46
  go_wp2_with fail
  refine (hc _).mono ?_
  rintro e w1 ⟨rfl, hB⟩
  obtain ⟨k1, k2, hB⟩ := two8 hB
  obtain ⟨a0, a1, a2, a3, a4, a5, a6, a7⟩ := cells8 k1
  obtain ⟨b0, b1, b2, b3, b4, b5, b6, b7⟩ := cells8 k2
  have fa := fun i => Blk.free k1 i
  have fb := fun i => Blk.free k2 i
  have K1 := Lib.hid k1
  have K2 := Lib.hid k2
  have HB := Lib.hid hB
  clear hB k1 k2
  go_wp2_with fail
  refine bodyPost_ret (results_ct (p := 2) (u := 3) (ty := 32) (by kernel_rfl) _ _ (w.heap.size + 1) 32 #[.int .i64 0, .bool false, .int .i64 0, .int .i64 0, .int .i64 0, .int .i64 0, .bool false, .bool false] _ rfl (blk_put8 K2.out (.int .i64 0) (.bool false) (.int .i64 0) (.int .i64 0) (.int .i64 0) (.int .i64 0) (.bool false) (.bool false)) Tryz.underlying32 rfl (by kernel_rfl)) rfl ?_
  exact ⟨rfl, below_put8 HB.out (by omega) _ _ _ _ _ _ _ _⟩

theorem tready_t_old (gd : Bool) (n ls va vo : Int) (hc : ∀ w, Calls Tryz.prog 70 #[.agg #[.int .i64 1, .bool false, .int .i64 n, .int .i64 ls, .int .i64 vo, .int .i64 va, .bool gd, .bool true]] w fun e w' => e = .returned (.bool true) ∧ Below w.heap.size w w') (h1 : decide (vo < ls) = true) (w : World) : Calls Tryz.prog 46 #[.agg #[.int .i64 1, .bool false, .int .i64 n, .int .i64 ls, .int .i64 vo, .int .i64 va, .bool gd, .bool true]] w fun e w' => e = .returned (.tuple #[.agg #[.int .i64 0, .bool false, .int .i64 0, .int .i64 0, .int .i64 0, .int .i64 0, .bool false, .bool false], .int .i64 210]) ∧ Below w.heap.size w w' := by
  have hb0 := bits01
  have hb1 := bits11
  go_enter Tryz.func46, Tryz.ntmps46
  go_wp2_with fail
  refine (hc _).mono ?_
  rintro e w1 ⟨rfl, hB⟩
  obtain ⟨k1, k2, hB⟩ := two8 hB
  obtain ⟨a0, a1, a2, a3, a4, a5, a6, a7⟩ := cells8 k1
  obtain ⟨b0, b1, b2, b3, b4, b5, b6, b7⟩ := cells8 k2
  have fa := fun i => Blk.free k1 i
  have fb := fun i => Blk.free k2 i
  have K1 := Lib.hid k1
  have K2 := Lib.hid k2
  have HB := Lib.hid hB
  clear hB k1 k2
  go_wp2_with fail
  go_quiet (fail)
  obtain ⟨w2, hw2⟩ : ∃ w2, w2 = w1.drewN nq := ⟨_, rfl⟩
  have hbq : Below w1.heap.size w1 w2 := by rw [hw2]; exact below_drewN (Below.refl _ _) nq
  rw [← hw2]
  have K1 := Lib.hid (K1.out.below hbq)
  have K2 := Lib.hid (K2.out.below hbq)
  have HB := Lib.hid (HB.out.trans (hbq.mono HB.out.size))
  clear hw2 hbq a0 a1 a2 a3 a4 a5 a6 a7 b0 b1 b2 b3 b4 b5 b6 b7 fa fb
  obtain ⟨a0, a1, a2, a3, a4, a5, a6, a7⟩ := cells8 K1.out
  obtain ⟨b0, b1, b2, b3, b4, b5, b6, b7⟩ := cells8 K2.out
  have fa := fun i => Blk.free K1.out i
  have fb := fun i => Blk.free K2.out i
  go_wp2_with fail
  refine bodyPost_ret (results_ct (p := 2) (u := 3) (ty := 32) (by kernel_rfl) _ _ (w.heap.size + 1) 32 #[.int .i64 0, .bool false, .int .i64 0, .int .i64 0, .int .i64 0, .int .i64 0, .bool false, .bool false] _ rfl (blk_put8 K2.out (.int .i64 0) (.bool false) (.int .i64 0) (.int .i64 0) (.int .i64 0) (.int .i64 0) (.bool false) (.bool false)) Tryz.underlying32 rfl (by kernel_rfl)) rfl ?_
  exact ⟨rfl, below_put8 HB.out (by omega) _ _ _ _ _ _ _ _⟩

theorem tready_t_ok (gd : Bool) (n ls va vo : Int) (hc : ∀ w, Calls Tryz.prog 70 #[.agg #[.int .i64 1, .bool false, .int .i64 n, .int .i64 ls, .int .i64 vo, .int .i64 va, .bool gd, .bool true]] w fun e w' => e = .returned (.bool true) ∧ Below w.heap.size w w') (h1 : decide (vo < ls) = false) (w : World) : Calls Tryz.prog 46 #[.agg #[.int .i64 1, .bool false, .int .i64 n, .int .i64 ls, .int .i64 vo, .int .i64 va, .bool gd, .bool true]] w fun e w' => e = .returned (.tuple #[.agg #[.int .i64 1, .bool false, .int .i64 n, .int .i64 ls, .int .i64 vo, .int .i64 va, .bool true, .bool true], .int .i64 0]) ∧ Below w.heap.size w w' := by
  have hb0 := bits01
  have hb1 := bits11
  go_enter Tryz.func46, Tryz.ntmps46
  go_wp2_with fail
  refine (hc _).mono ?_
  rintro e w1 ⟨rfl, hB⟩
  obtain ⟨k1, k2, hB⟩ := two8 hB
  obtain ⟨a0, a1, a2, a3, a4, a5, a6, a7⟩ := cells8 k1
  obtain ⟨b0, b1, b2, b3, b4, b5, b6, b7⟩ := cells8 k2
  have fa := fun i => Blk.free k1 i
  have fb := fun i => Blk.free k2 i
  have K1 := Lib.hid k1
  have K2 := Lib.hid k2
  have HB := Lib.hid hB
  clear hB k1 k2
  go_wp2_with fail
  go_quiet (fail)
  obtain ⟨w2, hw2⟩ : ∃ w2, w2 = w1.drewN nq := ⟨_, rfl⟩
  have hbq : Below w1.heap.size w1 w2 := by rw [hw2]; exact below_drewN (Below.refl _ _) nq
  rw [← hw2]
  have K1 := Lib.hid (K1.out.below hbq)
  have K2 := Lib.hid (K2.out.below hbq)
  have HB := Lib.hid (HB.out.trans (hbq.mono HB.out.size))
  clear hw2 hbq a0 a1 a2 a3 a4 a5 a6 a7 b0 b1 b2 b3 b4 b5 b6 b7 fa fb
  obtain ⟨a0, a1, a2, a3, a4, a5, a6, a7⟩ := cells8 K1.out
  obtain ⟨b0, b1, b2, b3, b4, b5, b6, b7⟩ := cells8 K2.out
  have fa := fun i => Blk.free K1.out i
  have fb := fun i => Blk.free K2.out i
  go_wp2_with fail
  refine bodyPost_ret (results_ct (p := 2) (u := 3) (ty := 32) (by kernel_rfl) _ _ (w.heap.size + 1) 32 #[.int .i64 1, .bool false, .int .i64 n, .int .i64 ls, .int .i64 vo, .int .i64 va, .bool true, .bool true] _ rfl (blk_put8 (Blk.far K2.out (p := ⟨w.heap.size, 6, none⟩) (by simp) (.bool true)) (.int .i64 1) (.bool false) (.int .i64 n) (.int .i64 ls) (.int .i64 vo) (.int .i64 va) (.bool true) (.bool true)) Tryz.underlying32 rfl (by kernel_rfl)) rfl ?_
  exact ⟨rfl, below_put8 (Below.setCell HB.out (p := ⟨w.heap.size, 6, none⟩) (Nat.le_refl _) (.bool true)) (by omega) _ _ _ _ _ _ _ _⟩

theorem tswitch_t_lo (tr : Bool) (gd : Bool) (n ls va vo t : Int) (hc : ∀ w, Calls Tryz.prog 70 #[.agg #[.int .i64 1, .bool tr, .int .i64 n, .int .i64 ls, .int .i64 vo, .int .i64 va, .bool gd, .bool true]] w fun e w' => e = .returned (.bool true) ∧ Below w.heap.size w w') (h1 : decide (t < 1) = true) (w : World) : Calls Tryz.prog 49 #[.agg #[.int .i64 1, .bool tr, .int .i64 n, .int .i64 ls, .int .i64 vo, .int .i64 va, .bool gd, .bool true], .int .i64 t] w fun e w' => e = .returned (.tuple #[.agg #[.int .i64 0, .bool false, .int .i64 0, .int .i64 0, .int .i64 0, .int .i64 0, .bool false, .bool false], .int .i64 1]) ∧ Below w.heap.size w w' := by
  have hb0 := bits01
  have hb1 := bits11
  go_enter Tryz.func49, Tryz.ntmps49
  go_wp2_with fail
  refine (hc _).mono ?_
  rintro e w1 ⟨rfl, hB⟩
  obtain ⟨k1, k2, hB⟩ := two8 hB
  obtain ⟨a0, a1, a2, a3, a4, a5, a6, a7⟩ := cells8 k1
  obtain ⟨b0, b1, b2, b3, b4, b5, b6, b7⟩ := cells8 k2
  have fa := fun i => Blk.free k1 i
  have fb := fun i => Blk.free k2 i
  have K1 := Lib.hid k1
  have K2 := Lib.hid k2
  have HB := Lib.hid hB
  clear hB k1 k2
  go_wp2_with fail
  refine bodyPost_ret (results_ct (p := 4) (u := 5) (ty := 32) (by kernel_rfl) _ _ (w.heap.size + 1) 32 #[.int .i64 0, .bool false, .int .i64 0, .int .i64 0, .int .i64 0, .int .i64 0, .bool false, .bool false] _ rfl (blk_put8 K2.out (.int .i64 0) (.bool false) (.int .i64 0) (.int .i64 0) (.int .i64 0) (.int .i64 0) (.bool false) (.bool false)) Tryz.underlying32 rfl (by kernel_rfl)) rfl ?_
  exact ⟨rfl, below_put8 HB.out (by omega) _ _ _ _ _ _ _ _⟩

theorem tswitch_t_hi (tr : Bool) (gd : Bool) (n ls va vo t : Int) (hc : ∀ w, Calls Tryz.prog 70 #[.agg #[.int .i64 1, .bool tr, .int .i64 n, .int .i64 ls, .int .i64 vo, .int .i64 va, .bool gd, .bool true]] w fun e w' => e = .returned (.bool true) ∧ Below w.heap.size w w') (h1 : decide (t < 1) = false) (h2 : decide (7 < t) = true) (w : World) : Calls Tryz.prog 49 #[.agg #[.int .i64 1, .bool tr, .int .i64 n, .int .i64 ls, .int .i64 vo, .int .i64 va, .bool gd, .bool true], .int .i64 t] w fun e w' => e = .returned (.tuple #[.agg #[.int .i64 0, .bool false, .int .i64 0, .int .i64 0, .int .i64 0, .int .i64 0, .bool false, .bool false], .int .i64 1]) ∧ Below w.heap.size w w' := by
  have hb0 := bits01
  have hb1 := bits11
  go_enter Tryz.func49, Tryz.ntmps49
  go_wp2_with fail
  refine (hc _).mono ?_
  rintro e w1 ⟨rfl, hB⟩
  obtain ⟨k1, k2, hB⟩ := two8 hB
  obtain ⟨a0, a1, a2, a3, a4, a5, a6, a7⟩ := cells8 k1
  obtain ⟨b0, b1, b2, b3, b4, b5, b6, b7⟩ := cells8 k2
  have fa := fun i => Blk.free k1 i
  have fb := fun i => Blk.free k2 i
  have K1 := Lib.hid k1
  have K2 := Lib.hid k2
  have HB := Lib.hid hB
  clear hB k1 k2
  go_wp2_with fail
  refine bodyPost_ret (results_ct (p := 4) (u := 5) (ty := 32) (by kernel_rfl) _ _ (w.heap.size + 1) 32 #[.int .i64 0, .bool false, .int .i64 0, .int .i64 0, .int .i64 0, .int .i64 0, .bool false, .bool false] _ rfl (blk_put8 K2.out (.int .i64 0) (.bool false) (.int .i64 0) (.int .i64 0) (.int .i64 0) (.int .i64 0) (.bool false) (.bool false)) Tryz.underlying32 rfl (by kernel_rfl)) rfl ?_
  exact ⟨rfl, below_put8 HB.out (by omega) _ _ _ _ _ _ _ _⟩

theorem tswitch_t_tr (gd : Bool) (n ls va vo t : Int) (hc : ∀ w, Calls Tryz.prog 70 #[.agg #[.int .i64 1, .bool true, .int .i64 n, .int .i64 ls, .int .i64 vo, .int .i64 va, .bool gd, .bool true]] w fun e w' => e = .returned (.bool true) ∧ Below w.heap.size w w') (h1 : decide (t < 1) = false) (h2 : decide (7 < t) = false) (w : World) : Calls Tryz.prog 49 #[.agg #[.int .i64 1, .bool true, .int .i64 n, .int .i64 ls, .int .i64 vo, .int .i64 va, .bool gd, .bool true], .int .i64 t] w fun e w' => e = .returned (.tuple #[.agg #[.int .i64 0, .bool false, .int .i64 0, .int .i64 0, .int .i64 0, .int .i64 0, .bool false, .bool false], .int .i64 211]) ∧ Below w.heap.size w w' := by
  have hb0 := bits01
  have hb1 := bits11
  go_enter Tryz.func49, Tryz.ntmps49
  go_wp2_with fail
  refine (hc _).mono ?_
  rintro e w1 ⟨rfl, hB⟩
  obtain ⟨k1, k2, hB⟩ := two8 hB
  obtain ⟨a0, a1, a2, a3, a4, a5, a6, a7⟩ := cells8 k1
  obtain ⟨b0, b1, b2, b3, b4, b5, b6, b7⟩ := cells8 k2
  have fa := fun i => Blk.free k1 i
  have fb := fun i => Blk.free k2 i
  have K1 := Lib.hid k1
  have K2 := Lib.hid k2
  have HB := Lib.hid hB
  clear hB k1 k2
  go_wp2_with fail
  refine bodyPost_ret (results_ct (p := 4) (u := 5) (ty := 32) (by kernel_rfl) _ _ (w.heap.size + 1) 32 #[.int .i64 0, .bool false, .int .i64 0, .int .i64 0, .int .i64 0, .int .i64 0, .bool false, .bool false] _ rfl (blk_put8 K2.out (.int .i64 0) (.bool false) (.int .i64 0) (.int .i64 0) (.int .i64 0) (.int .i64 0) (.bool false) (.bool false)) Tryz.underlying32 rfl (by kernel_rfl)) rfl ?_
  exact ⟨rfl, below_put8 HB.out (by omega) _ _ _ _ _ _ _ _⟩

theorem tswitch_t_no (n ls va vo t : Int) (hc : ∀ w, Calls Tryz.prog 70 #[.agg #[.int .i64 1, .bool false, .int .i64 n, .int .i64 ls, .int .i64 vo, .int .i64 va, .bool false, .bool true]] w fun e w' => e = .returned (.bool true) ∧ Below w.heap.size w w') (h1 : decide (t < 1) = false) (h2 : decide (7 < t) = false) (w : World) : Calls Tryz.prog 49 #[.agg #[.int .i64 1, .bool false, .int .i64 n, .int .i64 ls, .int .i64 vo, .int .i64 va, .bool false, .bool true], .int .i64 t] w fun e w' => e = .returned (.tuple #[.agg #[.int .i64 0, .bool false, .int .i64 0, .int .i64 0, .int .i64 0, .int .i64 0, .bool false, .bool false], .int .i64 212]) ∧ Below w.heap.size w w' := by
  have hb0 := bits01
  have hb1 := bits11
  go_enter Tryz.func49, Tryz.ntmps49
  go_wp2_with fail
  refine (hc _).mono ?_
  rintro e w1 ⟨rfl, hB⟩
  obtain ⟨k1, k2, hB⟩ := two8 hB
  obtain ⟨a0, a1, a2, a3, a4, a5, a6, a7⟩ := cells8 k1
  obtain ⟨b0, b1, b2, b3, b4, b5, b6, b7⟩ := cells8 k2
  have fa := fun i => Blk.free k1 i
  have fb := fun i => Blk.free k2 i
  have K1 := Lib.hid k1
  have K2 := Lib.hid k2
  have HB := Lib.hid hB
  clear hB k1 k2
  go_wp2_with fail
  refine bodyPost_ret (results_ct (p := 4) (u := 5) (ty := 32) (by kernel_rfl) _ _ (w.heap.size + 1) 32 #[.int .i64 0, .bool false, .int .i64 0, .int .i64 0, .int .i64 0, .int .i64 0, .bool false, .bool false] _ rfl (blk_put8 K2.out (.int .i64 0) (.bool false) (.int .i64 0) (.int .i64 0) (.int .i64 0) (.int .i64 0) (.bool false) (.bool false)) Tryz.underlying32 rfl (by kernel_rfl)) rfl ?_
  exact ⟨rfl, below_put8 HB.out (by omega) _ _ _ _ _ _ _ _⟩

theorem tswitch_t_old (n ls va vo t : Int) (hc : ∀ w, Calls Tryz.prog 70 #[.agg #[.int .i64 1, .bool false, .int .i64 n, .int .i64 ls, .int .i64 vo, .int .i64 va, .bool true, .bool true]] w fun e w' => e = .returned (.bool true) ∧ Below w.heap.size w w') (h1 : decide (t < 1) = false) (h2 : decide (7 < t) = false) (h3 : decide (vo < ls) = true) (w : World) : Calls Tryz.prog 49 #[.agg #[.int .i64 1, .bool false, .int .i64 n, .int .i64 ls, .int .i64 vo, .int .i64 va, .bool true, .bool true], .int .i64 t] w fun e w' => e = .returned (.tuple #[.agg #[.int .i64 0, .bool false, .int .i64 0, .int .i64 0, .int .i64 0, .int .i64 0, .bool false, .bool false], .int .i64 210]) ∧ Below w.heap.size w w' := by
  have hb0 := bits01
  have hb1 := bits11
  go_enter Tryz.func49, Tryz.ntmps49
  go_wp2_with fail
  refine (hc _).mono ?_
  rintro e w1 ⟨rfl, hB⟩
  obtain ⟨k1, k2, hB⟩ := two8 hB
  obtain ⟨a0, a1, a2, a3, a4, a5, a6, a7⟩ := cells8 k1
  obtain ⟨b0, b1, b2, b3, b4, b5, b6, b7⟩ := cells8 k2
  have fa := fun i => Blk.free k1 i
  have fb := fun i => Blk.free k2 i
  have K1 := Lib.hid k1
  have K2 := Lib.hid k2
  have HB := Lib.hid hB
  clear hB k1 k2
  go_wp2_with fail
  go_quiet (fail)
  obtain ⟨w2, hw2⟩ : ∃ w2, w2 = w1.drewN nq := ⟨_, rfl⟩
  have hbq : Below w1.heap.size w1 w2 := by rw [hw2]; exact below_drewN (Below.refl _ _) nq
  rw [← hw2]
  have K1 := Lib.hid (K1.out.below hbq)
  have K2 := Lib.hid (K2.out.below hbq)
  have HB := Lib.hid (HB.out.trans (hbq.mono HB.out.size))
  clear hw2 hbq a0 a1 a2 a3 a4 a5 a6 a7 b0 b1 b2 b3 b4 b5 b6 b7 fa fb
  obtain ⟨a0, a1, a2, a3, a4, a5, a6, a7⟩ := cells8 K1.out
  obtain ⟨b0, b1, b2, b3, b4, b5, b6, b7⟩ := cells8 K2.out
  have fa := fun i => Blk.free K1.out i
  have fb := fun i => Blk.free K2.out i
  go_wp2_with fail
  refine bodyPost_ret (results_ct (p := 4) (u := 5) (ty := 32) (by kernel_rfl) _ _ (w.heap.size + 1) 32 #[.int .i64 0, .bool false, .int .i64 0, .int .i64 0, .int .i64 0, .int .i64 0, .bool false, .bool false] _ rfl (blk_put8 K2.out (.int .i64 0) (.bool false) (.int .i64 0) (.int .i64 0) (.int .i64 0) (.int .i64 0) (.bool false) (.bool false)) Tryz.underlying32 rfl (by kernel_rfl)) rfl ?_
  exact ⟨rfl, below_put8 HB.out (by omega) _ _ _ _ _ _ _ _⟩

theorem tswitch_t_ok (n ls va vo t : Int) (hc : ∀ w, Calls Tryz.prog 70 #[.agg #[.int .i64 1, .bool false, .int .i64 n, .int .i64 ls, .int .i64 vo, .int .i64 va, .bool true, .bool true]] w fun e w' => e = .returned (.bool true) ∧ Below w.heap.size w w') (h1 : decide (t < 1) = false) (h2 : decide (7 < t) = false) (h3 : decide (vo < ls) = false) (w : World) : Calls Tryz.prog 49 #[.agg #[.int .i64 1, .bool false, .int .i64 n, .int .i64 ls, .int .i64 vo, .int .i64 va, .bool true, .bool true], .int .i64 t] w fun e w' => e = .returned (.tuple #[.agg #[.int .i64 0, .bool true, .int .i64 t, .int .i64 ls, .int .i64 vo, .int .i64 va, .bool true, .bool true], .int .i64 0]) ∧ Below w.heap.size w w' := by
  have hb0 := bits01
  have hb1 := bits11
  go_enter Tryz.func49, Tryz.ntmps49
  go_wp2_with fail
  refine (hc _).mono ?_
  rintro e w1 ⟨rfl, hB⟩
  obtain ⟨k1, k2, hB⟩ := two8 hB
  obtain ⟨a0, a1, a2, a3, a4, a5, a6, a7⟩ := cells8 k1
  obtain ⟨b0, b1, b2, b3, b4, b5, b6, b7⟩ := cells8 k2
  have fa := fun i => Blk.free k1 i
  have fb := fun i => Blk.free k2 i
  have K1 := Lib.hid k1
  have K2 := Lib.hid k2
  have HB := Lib.hid hB
  clear hB k1 k2
  go_wp2_with fail
  go_quiet (fail)
  obtain ⟨w2, hw2⟩ : ∃ w2, w2 = w1.drewN nq := ⟨_, rfl⟩
  have hbq : Below w1.heap.size w1 w2 := by rw [hw2]; exact below_drewN (Below.refl _ _) nq
  rw [← hw2]
  have K1 := Lib.hid (K1.out.below hbq)
  have K2 := Lib.hid (K2.out.below hbq)
  have HB := Lib.hid (HB.out.trans (hbq.mono HB.out.size))
  clear hw2 hbq a0 a1 a2 a3 a4 a5 a6 a7 b0 b1 b2 b3 b4 b5 b6 b7 fa fb
  obtain ⟨a0, a1, a2, a3, a4, a5, a6, a7⟩ := cells8 K1.out
  obtain ⟨b0, b1, b2, b3, b4, b5, b6, b7⟩ := cells8 K2.out
  have fa := fun i => Blk.free K1.out i
  have fb := fun i => Blk.free K2.out i
  go_wp2_with fail
  refine bodyPost_ret (results_ct (p := 4) (u := 5) (ty := 32) (by kernel_rfl) _ _ (w.heap.size + 1) 32 #[.int .i64 0, .bool true, .int .i64 t, .int .i64 ls, .int .i64 vo, .int .i64 va, .bool true, .bool true] _ rfl (blk_put8 (Blk.far (Blk.far (Blk.far K2.out (p := ⟨w.heap.size, 0, none⟩) (by simp) (.int .i64 0)) (p := ⟨w.heap.size, 1, none⟩) (by simp) (.bool true)) (p := ⟨w.heap.size, 2, none⟩) (by simp) (.int .i64 t)) (.int .i64 0) (.bool true) (.int .i64 t) (.int .i64 ls) (.int .i64 vo) (.int .i64 va) (.bool true) (.bool true)) Tryz.underlying32 rfl (by kernel_rfl)) rfl ?_
  exact ⟨rfl, below_put8 (Below.setCell (Below.setCell (Below.setCell HB.out (p := ⟨w.heap.size, 0, none⟩) (Nat.le_refl _) (.int .i64 0)) (p := ⟨w.heap.size, 1, none⟩) (Nat.le_refl _) (.bool true)) (p := ⟨w.heap.size, 2, none⟩) (Nat.le_refl _) (.int .i64 t)) (by omega) _ _ _ _ _ _ _ _⟩

theorem tstate_t_last (ls va vo : Int) (gd : Bool) (w : World) : Calls Tryz.prog 76 #[.agg #[.int .i64 1, .bool true, .int .i64 0, .int .i64 ls, .int .i64 vo, .int .i64 va, .bool gd, .bool true]] w fun e w' => e = .returned (.int .i64 3) ∧ Below w.heap.size w w' := by
  have HB := Lib.hid ((Below.refl w.heap.size w).alloc (Nat.le_refl _) (.cells #[.int .i64 1, .bool true, .int .i64 0, .int .i64 ls, .int .i64 vo, .int .i64 va, .bool gd, .bool true] 32))
  have hb0 := bits01
  have hb1 := bits11
  go_enter Tryz.func76, Tryz.ntmps76
  go_wp2_with fail
  go_ret
  exact ⟨rfl, HB.out⟩

theorem tstate_t_trial (ls va vo : Int) (n : Int) (gd : Bool) (h : (n == 0) = false) (w : World) : Calls Tryz.prog 76 #[.agg #[.int .i64 1, .bool true, .int .i64 n, .int .i64 ls, .int .i64 vo, .int .i64 va, .bool gd, .bool true]] w fun e w' => e = .returned (.int .i64 2) ∧ Below w.heap.size w w' := by
  have HB := Lib.hid ((Below.refl w.heap.size w).alloc (Nat.le_refl _) (.cells #[.int .i64 1, .bool true, .int .i64 n, .int .i64 ls, .int .i64 vo, .int .i64 va, .bool gd, .bool true] 32))
  have hb0 := bits01
  have hb1 := bits11
  go_enter Tryz.func76, Tryz.ntmps76
  go_wp2_with fail
  go_ret
  exact ⟨rfl, HB.out⟩

theorem tstate_t_ready (ls va vo : Int) (n : Int) (w : World) : Calls Tryz.prog 76 #[.agg #[.int .i64 1, .bool false, .int .i64 n, .int .i64 ls, .int .i64 vo, .int .i64 va, .bool true, .bool true]] w fun e w' => e = .returned (.int .i64 1) ∧ Below w.heap.size w w' := by
  have HB := Lib.hid ((Below.refl w.heap.size w).alloc (Nat.le_refl _) (.cells #[.int .i64 1, .bool false, .int .i64 n, .int .i64 ls, .int .i64 vo, .int .i64 va, .bool true, .bool true] 32))
  have hb0 := bits01
  have hb1 := bits11
  go_enter Tryz.func76, Tryz.ntmps76
  go_wp2_with fail
  go_ret
  exact ⟨rfl, HB.out⟩

theorem tstate_t_plain (ls va vo : Int) (n : Int) (w : World) : Calls Tryz.prog 76 #[.agg #[.int .i64 1, .bool false, .int .i64 n, .int .i64 ls, .int .i64 vo, .int .i64 va, .bool false, .bool true]] w fun e w' => e = .returned (.int .i64 0) ∧ Below w.heap.size w w' := by
  have HB := Lib.hid ((Below.refl w.heap.size w).alloc (Nat.le_refl _) (.cells #[.int .i64 1, .bool false, .int .i64 n, .int .i64 ls, .int .i64 vo, .int .i64 va, .bool false, .bool true] 32))
  have hb0 := bits01
  have hb1 := bits11
  go_enter Tryz.func76, Tryz.ntmps76
  go_wp2_with fail
  go_ret
  exact ⟨rfl, HB.out⟩

end Go.Proofs.YticnmogeknlmeaaGreatDoor.B
