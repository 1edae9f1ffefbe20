/- Helper: what is kept of slots when one starts or is confirmed; the document's acts on it; walked. No condition. -/
import Derived.Test.YticnmogeknlmeaaGreatDoorN20
namespace Go.Proofs.YticnmogeknlmeaaGreatDoor.B
open Go.RowKit Go.Proofs.YticnmogeknlmeaaGreatDoorW.PrintWords
set_option maxRecDepth 100000
set_option maxHeartbeats 1600000
theorem blk_eq {w : World} {g : Nat} {cs ds : Array Value} {t : TypeId} (h : Blk w g cs t) (e : cs = ds) : Blk w g ds t := e ▸ h
theorem blk_drew {w : World} {g : Nat} {cs : Array Value} {t : TypeId} (h : Blk w g cs t) : Blk w.drew g cs t := h
theorem below_drew {b : Nat} {w w1 : World} (h : Below b w w1) : Below b w w1.drew := below_drewN h 1
theorem tconf_f_no (gd : Bool) (n ls va vo : Int) (hc : ∀ w, Calls Tryz.prog 70 #[.agg #[.int .i64 0, .bool false, .int .i64 n, .int .i64 ls, .int .i64 va, .int .i64 vo, .bool true, .bool gd]] w fun e w' => e = .returned (.bool true) ∧ Below w.heap.size w w') (w : World) : Calls Tryz.prog 59 #[.agg #[.int .i64 0, .bool false, .int .i64 n, .int .i64 ls, .int .i64 va, .int .i64 vo, .bool true, .bool gd]] w fun e w' => e = .returned (.tuple #[.agg #[.int .i64 0, .bool false, .int .i64 0, .int .i64 0, .int .i64 0, .int .i64 0, .bool false, .bool false], .int .i64 211]) ∧ Below w.heap.size w w' := by
  have hb0 := bits01
  have hb1 := bits11
  go_enter Tryz.func59, Tryz.ntmps59
  go_wp2_with fail
  refine (hc _).mono ?_
  rintro e w1 ⟨rfl, hB⟩
  obtain ⟨k1, k2, hB⟩ := two8 hB
  have K1 := Lib.hid k1
  have K2 := Lib.hid k2
  have HB := Lib.hid hB
  clear hB k1 k2
  obtain ⟨a0, a1, a2, a3, a4, a5, a6, a7⟩ := cells8 K1.out
  obtain ⟨b0, b1, b2, b3, b4, b5, b6, b7⟩ := cells8 K2.out
  have fa := fun i => Blk.free K1.out i
  have fb := fun i => Blk.free K2.out i
  go_wp2_with fail
  refine bodyPost_ret (results_ct (p := 2) (u := 3) (ty := 32) (by kernel_rfl) _ _ (w.heap.size + 1) 32 #[.int .i64 0, .bool false, .int .i64 0, .int .i64 0, .int .i64 0, .int .i64 0, .bool false, .bool false] _ rfl (blk_put8 K2.out (.int .i64 0) (.bool false) (.int .i64 0) (.int .i64 0) (.int .i64 0) (.int .i64 0) (.bool false) (.bool false)) Tryz.underlying32 rfl (by kernel_rfl)) rfl ?_
  exact ⟨rfl, below_put8 HB.out (by omega) _ _ _ _ _ _ _ _⟩
theorem tconf_f_up (gd : Bool) (n ls va vo : Int) (hc : ∀ w, Calls Tryz.prog 70 #[.agg #[.int .i64 0, .bool true, .int .i64 n, .int .i64 ls, .int .i64 va, .int .i64 vo, .bool true, .bool gd]] w fun e w' => e = .returned (.bool true) ∧ Below w.heap.size w w') (h : ls < va) (w : World) : Calls Tryz.prog 59 #[.agg #[.int .i64 0, .bool true, .int .i64 n, .int .i64 ls, .int .i64 va, .int .i64 vo, .bool true, .bool gd]] w fun e w' => e = .returned (.tuple #[.agg #[.int .i64 0, .bool false, .int .i64 0, .int .i64 va, .int .i64 va, .int .i64 vo, .bool true, .bool gd], .int .i64 0]) ∧ Below w.heap.size w w' := by
  have hb0 := bits01
  have hb1 := bits11
  go_enter Tryz.func59, Tryz.ntmps59
  go_wp2_with fail
  refine (hc _).mono ?_
  rintro e w1 ⟨rfl, hB⟩
  obtain ⟨k1, k2, hB⟩ := two8 hB
  have K1 := Lib.hid k1
  have K2 := Lib.hid k2
  have HB := Lib.hid hB
  clear hB k1 k2
  obtain ⟨a0, a1, a2, a3, a4, a5, a6, a7⟩ := cells8 K1.out
  obtain ⟨b0, b1, b2, b3, b4, b5, b6, b7⟩ := cells8 K2.out
  have fa := fun i => Blk.free K1.out i
  have fb := fun i => Blk.free K2.out i
  go_wp2_with fail
  go_region
  go_wp2_with fail
  refine bodyPost_ret (results_ct (p := 2) (u := 3) (ty := 32) (by kernel_rfl) _ _ (w.heap.size + 1) 32 #[.int .i64 0, .bool false, .int .i64 0, .int .i64 va, .int .i64 va, .int .i64 vo, .bool true, .bool gd] _ rfl (blk_drew (blk_put8 (Blk.far (Blk.far (Blk.far K2.out (p := ⟨w.heap.size, 1, none⟩) (by simp) (.bool false)) (p := ⟨w.heap.size, 2, none⟩) (by simp) (.int .i64 0)) (p := ⟨w.heap.size, 3, none⟩) (by simp) (.int .i64 va)) (.int .i64 0) (.bool false) (.int .i64 0) (.int .i64 va) (.int .i64 va) (.int .i64 vo) (.bool true) (.bool gd))) Tryz.underlying32 rfl (by kernel_rfl)) rfl ?_
  exact ⟨rfl, below_drew (below_put8 (Below.setCell (Below.setCell (Below.setCell HB.out (p := ⟨w.heap.size, 1, none⟩) (by simp) (.bool false)) (p := ⟨w.heap.size, 2, none⟩) (by simp) (.int .i64 0)) (p := ⟨w.heap.size, 3, none⟩) (by simp) (.int .i64 va)) (by omega) _ _ _ _ _ _ _ _)⟩
theorem tconf_f_st (gd : Bool) (n ls va vo : Int) (hc : ∀ w, Calls Tryz.prog 70 #[.agg #[.int .i64 0, .bool true, .int .i64 n, .int .i64 ls, .int .i64 va, .int .i64 vo, .bool true, .bool gd]] w fun e w' => e = .returned (.bool true) ∧ Below w.heap.size w w') (h : ¬ ls < va) (w : World) : Calls Tryz.prog 59 #[.agg #[.int .i64 0, .bool true, .int .i64 n, .int .i64 ls, .int .i64 va, .int .i64 vo, .bool true, .bool gd]] w fun e w' => e = .returned (.tuple #[.agg #[.int .i64 0, .bool false, .int .i64 0, .int .i64 ls, .int .i64 va, .int .i64 vo, .bool true, .bool gd], .int .i64 0]) ∧ Below w.heap.size w w' := by
  have hb0 := bits01
  have hb1 := bits11
  go_enter Tryz.func59, Tryz.ntmps59
  go_wp2_with fail
  refine (hc _).mono ?_
  rintro e w1 ⟨rfl, hB⟩
  obtain ⟨k1, k2, hB⟩ := two8 hB
  have K1 := Lib.hid k1
  have K2 := Lib.hid k2
  have HB := Lib.hid hB
  clear hB k1 k2
  obtain ⟨a0, a1, a2, a3, a4, a5, a6, a7⟩ := cells8 K1.out
  obtain ⟨b0, b1, b2, b3, b4, b5, b6, b7⟩ := cells8 K2.out
  have fa := fun i => Blk.free K1.out i
  have fb := fun i => Blk.free K2.out i
  go_wp2_with fail
  go_region
  go_wp2_with fail
  refine bodyPost_ret (results_ct (p := 2) (u := 3) (ty := 32) (by kernel_rfl) _ _ (w.heap.size + 1) 32 #[.int .i64 0, .bool false, .int .i64 0, .int .i64 ls, .int .i64 va, .int .i64 vo, .bool true, .bool gd] _ rfl (blk_drew (blk_put8 (Blk.far (Blk.far (Blk.far K2.out (p := ⟨w.heap.size, 1, none⟩) (by simp) (.bool false)) (p := ⟨w.heap.size, 2, none⟩) (by simp) (.int .i64 0)) (p := ⟨w.heap.size, 3, none⟩) (by simp) (.int .i64 ls)) (.int .i64 0) (.bool false) (.int .i64 0) (.int .i64 ls) (.int .i64 va) (.int .i64 vo) (.bool true) (.bool gd))) Tryz.underlying32 rfl (by kernel_rfl)) rfl ?_
  exact ⟨rfl, below_drew (below_put8 (Below.setCell (Below.setCell (Below.setCell HB.out (p := ⟨w.heap.size, 1, none⟩) (by simp) (.bool false)) (p := ⟨w.heap.size, 2, none⟩) (by simp) (.int .i64 0)) (p := ⟨w.heap.size, 3, none⟩) (by simp) (.int .i64 ls)) (by omega) _ _ _ _ _ _ _ _)⟩
theorem tstart_f_trial (ls va vo : Int) (n : Int) (gd : Bool) (hc : ∀ w, Calls Tryz.prog 70 #[.agg #[.int .i64 0, .bool true, .int .i64 n, .int .i64 ls, .int .i64 va, .int .i64 vo, .bool true, .bool gd]] w fun e w' => e = .returned (.bool true) ∧ Below w.heap.size w w') (hs : ∀ w, Calls Tryz.prog 76 #[.agg #[.int .i64 0, .bool true, .int .i64 n, .int .i64 ls, .int .i64 va, .int .i64 vo, .bool true, .bool gd]] w fun e w' => e = .returned (.int .i64 2) ∧ Below w.heap.size w w') (h : 1 ≤ n) (h7 : n ≤ 7) (w : World) : Calls Tryz.prog 50 #[.agg #[.int .i64 0, .bool true, .int .i64 n, .int .i64 ls, .int .i64 va, .int .i64 vo, .bool true, .bool gd]] w fun e w' => e = .returned (.tuple #[.int .i64 0, .agg #[.int .i64 0, .bool true, .int .i64 (n - 1), .int .i64 ls, .int .i64 va, .int .i64 vo, .bool true, .bool gd], .int .i64 0]) ∧ Below w.heap.size w w' := by
  have hb0 := bits01
  have hb1 := bits11
  go_enter Tryz.func50, Tryz.ntmps50
  go_wp2_with fail
  refine (hc _).mono ?_
  rintro e w1 ⟨rfl, hB⟩
  obtain ⟨k1, k2, hB⟩ := two8 hB
  have K1 := Lib.hid k1
  have K2 := Lib.hid k2
  have HB := Lib.hid hB
  clear hB k1 k2
  obtain ⟨a0, a1, a2, a3, a4, a5, a6, a7⟩ := cells8 K1.out
  obtain ⟨b0, b1, b2, b3, b4, b5, b6, b7⟩ := cells8 K2.out
  have fa := fun i => Blk.free K1.out i
  have fb := fun i => Blk.free K2.out i
  go_wp2_with fail
  refine (hs _).mono ?_
  have k1 := K1.out
  have k2 := K2.out
  have hb := HB.out
  rintro e w2 ⟨rfl, hB⟩
  clear a0 a1 a2 a3 a4 a5 a6 a7 b0 b1 b2 b3 b4 b5 b6 b7 fa fb
  have K1 := Lib.hid (k1.below hB)
  have K2 := Lib.hid (k2.below hB)
  have HB := Lib.hid (hb.trans (hB.mono hb.size))
  clear hB k1 k2 hb
  obtain ⟨a0, a1, a2, a3, a4, a5, a6, a7⟩ := cells8 K1.out
  obtain ⟨b0, b1, b2, b3, b4, b5, b6, b7⟩ := cells8 K2.out
  have fa := fun i => Blk.free K1.out i
  have fb := fun i => Blk.free K2.out i
  go_wp2_with fail
  go_region
  go_wp2_with fail
  refine bodyPost_ret (results_tct (v := 2) (p := 3) (u := 4) (ty := 32) (by kernel_rfl) _ _ (w.heap.size + 1) 32 #[.int .i64 0, .bool true, .int .i64 (n - 1), .int .i64 ls, .int .i64 va, .int .i64 vo, .bool true, .bool gd] _ rfl (blk_drew (blk_put8 (Blk.far K2.out (p := ⟨w.heap.size, 2, none⟩) (by simp) (.int .i64 (n - 1))) (.int .i64 0) (.bool true) (.int .i64 (n - 1)) (.int .i64 ls) (.int .i64 va) (.int .i64 vo) (.bool true) (.bool gd))) Tryz.underlying32 rfl (by kernel_rfl)) rfl ?_
  exact ⟨rfl, below_drew (below_put8 (Below.setCell HB.out (p := ⟨w.heap.size, 2, none⟩) (by simp) (.int .i64 (n - 1))) (by omega) _ _ _ _ _ _ _ _)⟩
theorem tstart_f_last (ls va vo : Int) (gd : Bool) (hc : ∀ w, Calls Tryz.prog 70 #[.agg #[.int .i64 0, .bool true, .int .i64 0, .int .i64 ls, .int .i64 va, .int .i64 vo, .bool true, .bool gd]] w fun e w' => e = .returned (.bool true) ∧ Below w.heap.size w w') (hs : ∀ w, Calls Tryz.prog 76 #[.agg #[.int .i64 0, .bool true, .int .i64 0, .int .i64 ls, .int .i64 va, .int .i64 vo, .bool true, .bool gd]] w fun e w' => e = .returned (.int .i64 3) ∧ Below w.heap.size w w') (w : World) : Calls Tryz.prog 50 #[.agg #[.int .i64 0, .bool true, .int .i64 0, .int .i64 ls, .int .i64 va, .int .i64 vo, .bool true, .bool gd]] w fun e w' => e = .returned (.tuple #[.int .i64 1, .agg #[.int .i64 1, .bool false, .int .i64 0, .int .i64 ls, .int .i64 va, .int .i64 vo, .bool false, .bool gd], .int .i64 0]) ∧ Below w.heap.size w w' := by
  have hb0 := bits01
  have hb1 := bits11
  go_enter Tryz.func50, Tryz.ntmps50
  go_wp2_with fail
  refine (hc _).mono ?_
  rintro e w1 ⟨rfl, hB⟩
  obtain ⟨k1, k2, hB⟩ := two8 hB
  have K1 := Lib.hid k1
  have K2 := Lib.hid k2
  have HB := Lib.hid hB
  clear hB k1 k2
  obtain ⟨a0, a1, a2, a3, a4, a5, a6, a7⟩ := cells8 K1.out
  obtain ⟨b0, b1, b2, b3, b4, b5, b6, b7⟩ := cells8 K2.out
  have fa := fun i => Blk.free K1.out i
  have fb := fun i => Blk.free K2.out i
  go_wp2_with fail
  refine (hs _).mono ?_
  have k1 := K1.out
  have k2 := K2.out
  have hb := HB.out
  rintro e w2 ⟨rfl, hB⟩
  clear a0 a1 a2 a3 a4 a5 a6 a7 b0 b1 b2 b3 b4 b5 b6 b7 fa fb
  have K1 := Lib.hid (k1.below hB)
  have K2 := Lib.hid (k2.below hB)
  have HB := Lib.hid (hb.trans (hB.mono hb.size))
  clear hB k1 k2 hb
  obtain ⟨a0, a1, a2, a3, a4, a5, a6, a7⟩ := cells8 K1.out
  obtain ⟨b0, b1, b2, b3, b4, b5, b6, b7⟩ := cells8 K2.out
  have fa := fun i => Blk.free K1.out i
  have fb := fun i => Blk.free K2.out i
  go_wp2_with fail
  go_region
  go_wp2_with fail
  refine bodyPost_ret (results_tct (v := 2) (p := 3) (u := 4) (ty := 32) (by kernel_rfl) _ _ (w.heap.size + 1) 32 #[.int .i64 1, .bool false, .int .i64 0, .int .i64 ls, .int .i64 va, .int .i64 vo, .bool false, .bool gd] _ rfl (blk_drew (blk_put8 (Blk.far (Blk.far (Blk.far K2.out (p := ⟨w.heap.size, 6, none⟩) (by simp) (.bool false)) (p := ⟨w.heap.size, 0, none⟩) (by simp) (.int .i64 1)) (p := ⟨w.heap.size, 1, none⟩) (by simp) (.bool false)) (.int .i64 1) (.bool false) (.int .i64 0) (.int .i64 ls) (.int .i64 va) (.int .i64 vo) (.bool false) (.bool gd))) Tryz.underlying32 rfl (by kernel_rfl)) rfl ?_
  exact ⟨rfl, below_drew (below_put8 (Below.setCell (Below.setCell (Below.setCell HB.out (p := ⟨w.heap.size, 6, none⟩) (by simp) (.bool false)) (p := ⟨w.heap.size, 0, none⟩) (by simp) (.int .i64 1)) (p := ⟨w.heap.size, 1, none⟩) (by simp) (.bool false)) (by omega) _ _ _ _ _ _ _ _)⟩
theorem tstart_f_ready (ls va vo : Int) (n : Int) (hc : ∀ w, Calls Tryz.prog 70 #[.agg #[.int .i64 0, .bool false, .int .i64 n, .int .i64 ls, .int .i64 va, .int .i64 vo, .bool true, .bool true]] w fun e w' => e = .returned (.bool true) ∧ Below w.heap.size w w') (hs : ∀ w, Calls Tryz.prog 76 #[.agg #[.int .i64 0, .bool false, .int .i64 n, .int .i64 ls, .int .i64 va, .int .i64 vo, .bool true, .bool true]] w fun e w' => e = .returned (.int .i64 1) ∧ Below w.heap.size w w') (w : World) : Calls Tryz.prog 50 #[.agg #[.int .i64 0, .bool false, .int .i64 n, .int .i64 ls, .int .i64 va, .int .i64 vo, .bool true, .bool true]] w fun e w' => e = .returned (.tuple #[.int .i64 0, .agg #[.int .i64 0, .bool false, .int .i64 n, .int .i64 ls, .int .i64 va, .int .i64 vo, .bool true, .bool true], .int .i64 0]) ∧ Below w.heap.size w w' := by
  have hb0 := bits01
  have hb1 := bits11
  go_enter Tryz.func50, Tryz.ntmps50
  go_wp2_with fail
  refine (hc _).mono ?_
  rintro e w1 ⟨rfl, hB⟩
  obtain ⟨k1, k2, hB⟩ := two8 hB
  have K1 := Lib.hid k1
  have K2 := Lib.hid k2
  have HB := Lib.hid hB
  clear hB k1 k2
  obtain ⟨a0, a1, a2, a3, a4, a5, a6, a7⟩ := cells8 K1.out
  obtain ⟨b0, b1, b2, b3, b4, b5, b6, b7⟩ := cells8 K2.out
  have fa := fun i => Blk.free K1.out i
  have fb := fun i => Blk.free K2.out i
  go_wp2_with fail
  refine (hs _).mono ?_
  have k1 := K1.out
  have k2 := K2.out
  have hb := HB.out
  rintro e w2 ⟨rfl, hB⟩
  clear a0 a1 a2 a3 a4 a5 a6 a7 b0 b1 b2 b3 b4 b5 b6 b7 fa fb
  have K1 := Lib.hid (k1.below hB)
  have K2 := Lib.hid (k2.below hB)
  have HB := Lib.hid (hb.trans (hB.mono hb.size))
  clear hB k1 k2 hb
  obtain ⟨a0, a1, a2, a3, a4, a5, a6, a7⟩ := cells8 K1.out
  obtain ⟨b0, b1, b2, b3, b4, b5, b6, b7⟩ := cells8 K2.out
  have fa := fun i => Blk.free K1.out i
  have fb := fun i => Blk.free K2.out i
  go_wp2_with fail
  go_region
  go_wp2_with fail
  refine bodyPost_ret (results_tct (v := 2) (p := 3) (u := 4) (ty := 32) (by kernel_rfl) _ _ (w.heap.size + 1) 32 #[.int .i64 0, .bool false, .int .i64 n, .int .i64 ls, .int .i64 va, .int .i64 vo, .bool true, .bool true] _ rfl (blk_drew (blk_put8 K2.out (.int .i64 0) (.bool false) (.int .i64 n) (.int .i64 ls) (.int .i64 va) (.int .i64 vo) (.bool true) (.bool true))) Tryz.underlying32 rfl (by kernel_rfl)) rfl ?_
  exact ⟨rfl, below_drew (below_put8 HB.out (by omega) _ _ _ _ _ _ _ _)⟩
theorem tstart_f_plain (ls va vo : Int) (n : Int) (hc : ∀ w, Calls Tryz.prog 70 #[.agg #[.int .i64 0, .bool false, .int .i64 n, .int .i64 ls, .int .i64 va, .int .i64 vo, .bool true, .bool false]] w fun e w' => e = .returned (.bool true) ∧ Below w.heap.size w w') (hs : ∀ w, Calls Tryz.prog 76 #[.agg #[.int .i64 0, .bool false, .int .i64 n, .int .i64 ls, .int .i64 va, .int .i64 vo, .bool true, .bool false]] w fun e w' => e = .returned (.int .i64 0) ∧ Below w.heap.size w w') (w : World) : Calls Tryz.prog 50 #[.agg #[.int .i64 0, .bool false, .int .i64 n, .int .i64 ls, .int .i64 va, .int .i64 vo, .bool true, .bool false]] w fun e w' => e = .returned (.tuple #[.int .i64 0, .agg #[.int .i64 0, .bool false, .int .i64 n, .int .i64 ls, .int .i64 va, .int .i64 vo, .bool true, .bool false], .int .i64 0]) ∧ Below w.heap.size w w' := by
  have hb0 := bits01
  have hb1 := bits11
  go_enter Tryz.func50, Tryz.ntmps50
  go_wp2_with fail
  refine (hc _).mono ?_
  rintro e w1 ⟨rfl, hB⟩
  obtain ⟨k1, k2, hB⟩ := two8 hB
  have K1 := Lib.hid k1
  have K2 := Lib.hid k2
  have HB := Lib.hid hB
  clear hB k1 k2
  obtain ⟨a0, a1, a2, a3, a4, a5, a6, a7⟩ := cells8 K1.out
  obtain ⟨b0, b1, b2, b3, b4, b5, b6, b7⟩ := cells8 K2.out
  have fa := fun i => Blk.free K1.out i
  have fb := fun i => Blk.free K2.out i
  go_wp2_with fail
  refine (hs _).mono ?_
  have k1 := K1.out
  have k2 := K2.out
  have hb := HB.out
  rintro e w2 ⟨rfl, hB⟩
  clear a0 a1 a2 a3 a4 a5 a6 a7 b0 b1 b2 b3 b4 b5 b6 b7 fa fb
  have K1 := Lib.hid (k1.below hB)
  have K2 := Lib.hid (k2.below hB)
  have HB := Lib.hid (hb.trans (hB.mono hb.size))
  clear hB k1 k2 hb
  obtain ⟨a0, a1, a2, a3, a4, a5, a6, a7⟩ := cells8 K1.out
  obtain ⟨b0, b1, b2, b3, b4, b5, b6, b7⟩ := cells8 K2.out
  have fa := fun i => Blk.free K1.out i
  have fb := fun i => Blk.free K2.out i
  go_wp2_with fail
  go_region
  go_wp2_with fail
  refine bodyPost_ret (results_tct (v := 2) (p := 3) (u := 4) (ty := 32) (by kernel_rfl) _ _ (w.heap.size + 1) 32 #[.int .i64 0, .bool false, .int .i64 n, .int .i64 ls, .int .i64 va, .int .i64 vo, .bool true, .bool false] _ rfl (blk_drew (blk_put8 K2.out (.int .i64 0) (.bool false) (.int .i64 n) (.int .i64 ls) (.int .i64 va) (.int .i64 vo) (.bool true) (.bool false))) Tryz.underlying32 rfl (by kernel_rfl)) rfl ?_
  exact ⟨rfl, below_drew (below_put8 HB.out (by omega) _ _ _ _ _ _ _ _)⟩
theorem tconf_t_no (gd : Bool) (n ls va vo : Int) (hc : ∀ w, Calls Tryz.prog 70 #[.agg #[.int .i64 1, .bool false, .int .i64 n, .int .i64 ls, .int .i64 vo, .int .i64 va, .bool gd, .bool true]] w fun e w' => e = .returned (.bool true) ∧ Below w.heap.size w w') (w : World) : Calls Tryz.prog 59 #[.agg #[.int .i64 1, .bool false, .int .i64 n, .int .i64 ls, .int .i64 vo, .int .i64 va, .bool gd, .bool true]] w fun e w' => e = .returned (.tuple #[.agg #[.int .i64 0, .bool false, .int .i64 0, .int .i64 0, .int .i64 0, .int .i64 0, .bool false, .bool false], .int .i64 211]) ∧ Below w.heap.size w w' := by
  have hb0 := bits01
  have hb1 := bits11
  go_enter Tryz.func59, Tryz.ntmps59
  go_wp2_with fail
  refine (hc _).mono ?_
  rintro e w1 ⟨rfl, hB⟩
  obtain ⟨k1, k2, hB⟩ := two8 hB
  have K1 := Lib.hid k1
  have K2 := Lib.hid k2
  have HB := Lib.hid hB
  clear hB k1 k2
  obtain ⟨a0, a1, a2, a3, a4, a5, a6, a7⟩ := cells8 K1.out
  obtain ⟨b0, b1, b2, b3, b4, b5, b6, b7⟩ := cells8 K2.out
  have fa := fun i => Blk.free K1.out i
  have fb := fun i => Blk.free K2.out i
  go_wp2_with fail
  refine bodyPost_ret (results_ct (p := 2) (u := 3) (ty := 32) (by kernel_rfl) _ _ (w.heap.size + 1) 32 #[.int .i64 0, .bool false, .int .i64 0, .int .i64 0, .int .i64 0, .int .i64 0, .bool false, .bool false] _ rfl (blk_put8 K2.out (.int .i64 0) (.bool false) (.int .i64 0) (.int .i64 0) (.int .i64 0) (.int .i64 0) (.bool false) (.bool false)) Tryz.underlying32 rfl (by kernel_rfl)) rfl ?_
  exact ⟨rfl, below_put8 HB.out (by omega) _ _ _ _ _ _ _ _⟩
theorem tconf_t_up (gd : Bool) (n ls va vo : Int) (hc : ∀ w, Calls Tryz.prog 70 #[.agg #[.int .i64 1, .bool true, .int .i64 n, .int .i64 ls, .int .i64 vo, .int .i64 va, .bool gd, .bool true]] w fun e w' => e = .returned (.bool true) ∧ Below w.heap.size w w') (h : ls < va) (w : World) : Calls Tryz.prog 59 #[.agg #[.int .i64 1, .bool true, .int .i64 n, .int .i64 ls, .int .i64 vo, .int .i64 va, .bool gd, .bool true]] w fun e w' => e = .returned (.tuple #[.agg #[.int .i64 1, .bool false, .int .i64 0, .int .i64 va, .int .i64 vo, .int .i64 va, .bool gd, .bool true], .int .i64 0]) ∧ Below w.heap.size w w' := by
  have hb0 := bits01
  have hb1 := bits11
  go_enter Tryz.func59, Tryz.ntmps59
  go_wp2_with fail
  refine (hc _).mono ?_
  rintro e w1 ⟨rfl, hB⟩
  obtain ⟨k1, k2, hB⟩ := two8 hB
  have K1 := Lib.hid k1
  have K2 := Lib.hid k2
  have HB := Lib.hid hB
  clear hB k1 k2
  obtain ⟨a0, a1, a2, a3, a4, a5, a6, a7⟩ := cells8 K1.out
  obtain ⟨b0, b1, b2, b3, b4, b5, b6, b7⟩ := cells8 K2.out
  have fa := fun i => Blk.free K1.out i
  have fb := fun i => Blk.free K2.out i
  go_wp2_with fail
  go_region
  go_wp2_with fail
  refine bodyPost_ret (results_ct (p := 2) (u := 3) (ty := 32) (by kernel_rfl) _ _ (w.heap.size + 1) 32 #[.int .i64 1, .bool false, .int .i64 0, .int .i64 va, .int .i64 vo, .int .i64 va, .bool gd, .bool true] _ rfl (blk_drew (blk_put8 (Blk.far (Blk.far (Blk.far K2.out (p := ⟨w.heap.size, 1, none⟩) (by simp) (.bool false)) (p := ⟨w.heap.size, 2, none⟩) (by simp) (.int .i64 0)) (p := ⟨w.heap.size, 3, none⟩) (by simp) (.int .i64 va)) (.int .i64 1) (.bool false) (.int .i64 0) (.int .i64 va) (.int .i64 vo) (.int .i64 va) (.bool gd) (.bool true))) Tryz.underlying32 rfl (by kernel_rfl)) rfl ?_
  exact ⟨rfl, below_drew (below_put8 (Below.setCell (Below.setCell (Below.setCell HB.out (p := ⟨w.heap.size, 1, none⟩) (by simp) (.bool false)) (p := ⟨w.heap.size, 2, none⟩) (by simp) (.int .i64 0)) (p := ⟨w.heap.size, 3, none⟩) (by simp) (.int .i64 va)) (by omega) _ _ _ _ _ _ _ _)⟩
theorem tconf_t_st (gd : Bool) (n ls va vo : Int) (hc : ∀ w, Calls Tryz.prog 70 #[.agg #[.int .i64 1, .bool true, .int .i64 n, .int .i64 ls, .int .i64 vo, .int .i64 va, .bool gd, .bool true]] w fun e w' => e = .returned (.bool true) ∧ Below w.heap.size w w') (h : ¬ ls < va) (w : World) : Calls Tryz.prog 59 #[.agg #[.int .i64 1, .bool true, .int .i64 n, .int .i64 ls, .int .i64 vo, .int .i64 va, .bool gd, .bool true]] w fun e w' => e = .returned (.tuple #[.agg #[.int .i64 1, .bool false, .int .i64 0, .int .i64 ls, .int .i64 vo, .int .i64 va, .bool gd, .bool true], .int .i64 0]) ∧ Below w.heap.size w w' := by
  have hb0 := bits01
  have hb1 := bits11
  go_enter Tryz.func59, Tryz.ntmps59
  go_wp2_with fail
  refine (hc _).mono ?_
  rintro e w1 ⟨rfl, hB⟩
  obtain ⟨k1, k2, hB⟩ := two8 hB
  have K1 := Lib.hid k1
  have K2 := Lib.hid k2
  have HB := Lib.hid hB
  clear hB k1 k2
  obtain ⟨a0, a1, a2, a3, a4, a5, a6, a7⟩ := cells8 K1.out
  obtain ⟨b0, b1, b2, b3, b4, b5, b6, b7⟩ := cells8 K2.out
  have fa := fun i => Blk.free K1.out i
  have fb := fun i => Blk.free K2.out i
  go_wp2_with fail
  go_region
  go_wp2_with fail
  refine bodyPost_ret (results_ct (p := 2) (u := 3) (ty := 32) (by kernel_rfl) _ _ (w.heap.size + 1) 32 #[.int .i64 1, .bool false, .int .i64 0, .int .i64 ls, .int .i64 vo, .int .i64 va, .bool gd, .bool true] _ rfl (blk_drew (blk_put8 (Blk.far (Blk.far (Blk.far K2.out (p := ⟨w.heap.size, 1, none⟩) (by simp) (.bool false)) (p := ⟨w.heap.size, 2, none⟩) (by simp) (.int .i64 0)) (p := ⟨w.heap.size, 3, none⟩) (by simp) (.int .i64 ls)) (.int .i64 1) (.bool false) (.int .i64 0) (.int .i64 ls) (.int .i64 vo) (.int .i64 va) (.bool gd) (.bool true))) Tryz.underlying32 rfl (by kernel_rfl)) rfl ?_
  exact ⟨rfl, below_drew (below_put8 (Below.setCell (Below.setCell (Below.setCell HB.out (p := ⟨w.heap.size, 1, none⟩) (by simp) (.bool false)) (p := ⟨w.heap.size, 2, none⟩) (by simp) (.int .i64 0)) (p := ⟨w.heap.size, 3, none⟩) (by simp) (.int .i64 ls)) (by omega) _ _ _ _ _ _ _ _)⟩
theorem tstart_t_trial (ls va vo : Int) (n : Int) (gd : Bool) (hc : ∀ w, Calls Tryz.prog 70 #[.agg #[.int .i64 1, .bool true, .int .i64 n, .int .i64 ls, .int .i64 vo, .int .i64 va, .bool gd, .bool true]] w fun e w' => e = .returned (.bool true) ∧ Below w.heap.size w w') (hs : ∀ w, Calls Tryz.prog 76 #[.agg #[.int .i64 1, .bool true, .int .i64 n, .int .i64 ls, .int .i64 vo, .int .i64 va, .bool gd, .bool true]] w fun e w' => e = .returned (.int .i64 2) ∧ Below w.heap.size w w') (h : 1 ≤ n) (h7 : n ≤ 7) (w : World) : Calls Tryz.prog 50 #[.agg #[.int .i64 1, .bool true, .int .i64 n, .int .i64 ls, .int .i64 vo, .int .i64 va, .bool gd, .bool true]] w fun e w' => e = .returned (.tuple #[.int .i64 1, .agg #[.int .i64 1, .bool true, .int .i64 (n - 1), .int .i64 ls, .int .i64 vo, .int .i64 va, .bool gd, .bool true], .int .i64 0]) ∧ Below w.heap.size w w' := by
  have hb0 := bits01
  have hb1 := bits11
  go_enter Tryz.func50, Tryz.ntmps50
  go_wp2_with fail
  refine (hc _).mono ?_
  rintro e w1 ⟨rfl, hB⟩
  obtain ⟨k1, k2, hB⟩ := two8 hB
  have K1 := Lib.hid k1
  have K2 := Lib.hid k2
  have HB := Lib.hid hB
  clear hB k1 k2
  obtain ⟨a0, a1, a2, a3, a4, a5, a6, a7⟩ := cells8 K1.out
  obtain ⟨b0, b1, b2, b3, b4, b5, b6, b7⟩ := cells8 K2.out
  have fa := fun i => Blk.free K1.out i
  have fb := fun i => Blk.free K2.out i
  go_wp2_with fail
  refine (hs _).mono ?_
  have k1 := K1.out
  have k2 := K2.out
  have hb := HB.out
  rintro e w2 ⟨rfl, hB⟩
  clear a0 a1 a2 a3 a4 a5 a6 a7 b0 b1 b2 b3 b4 b5 b6 b7 fa fb
  have K1 := Lib.hid (k1.below hB)
  have K2 := Lib.hid (k2.below hB)
  have HB := Lib.hid (hb.trans (hB.mono hb.size))
  clear hB k1 k2 hb
  obtain ⟨a0, a1, a2, a3, a4, a5, a6, a7⟩ := cells8 K1.out
  obtain ⟨b0, b1, b2, b3, b4, b5, b6, b7⟩ := cells8 K2.out
  have fa := fun i => Blk.free K1.out i
  have fb := fun i => Blk.free K2.out i
  go_wp2_with fail
  go_region
  go_wp2_with fail
  refine bodyPost_ret (results_tct (v := 2) (p := 3) (u := 4) (ty := 32) (by kernel_rfl) _ _ (w.heap.size + 1) 32 #[.int .i64 1, .bool true, .int .i64 (n - 1), .int .i64 ls, .int .i64 vo, .int .i64 va, .bool gd, .bool true] _ rfl (blk_drew (blk_put8 (Blk.far K2.out (p := ⟨w.heap.size, 2, none⟩) (by simp) (.int .i64 (n - 1))) (.int .i64 1) (.bool true) (.int .i64 (n - 1)) (.int .i64 ls) (.int .i64 vo) (.int .i64 va) (.bool gd) (.bool true))) Tryz.underlying32 rfl (by kernel_rfl)) rfl ?_
  exact ⟨rfl, below_drew (below_put8 (Below.setCell HB.out (p := ⟨w.heap.size, 2, none⟩) (by simp) (.int .i64 (n - 1))) (by omega) _ _ _ _ _ _ _ _)⟩
theorem tstart_t_last (ls va vo : Int) (gd : Bool) (hc : ∀ w, Calls Tryz.prog 70 #[.agg #[.int .i64 1, .bool true, .int .i64 0, .int .i64 ls, .int .i64 vo, .int .i64 va, .bool gd, .bool true]] w fun e w' => e = .returned (.bool true) ∧ Below w.heap.size w w') (hs : ∀ w, Calls Tryz.prog 76 #[.agg #[.int .i64 1, .bool true, .int .i64 0, .int .i64 ls, .int .i64 vo, .int .i64 va, .bool gd, .bool true]] w fun e w' => e = .returned (.int .i64 3) ∧ Below w.heap.size w w') (w : World) : Calls Tryz.prog 50 #[.agg #[.int .i64 1, .bool true, .int .i64 0, .int .i64 ls, .int .i64 vo, .int .i64 va, .bool gd, .bool true]] w fun e w' => e = .returned (.tuple #[.int .i64 0, .agg #[.int .i64 0, .bool false, .int .i64 0, .int .i64 ls, .int .i64 vo, .int .i64 va, .bool gd, .bool false], .int .i64 0]) ∧ Below w.heap.size w w' := by
  have hb0 := bits01
  have hb1 := bits11
  go_enter Tryz.func50, Tryz.ntmps50
  go_wp2_with fail
  refine (hc _).mono ?_
  rintro e w1 ⟨rfl, hB⟩
  obtain ⟨k1, k2, hB⟩ := two8 hB
  have K1 := Lib.hid k1
  have K2 := Lib.hid k2
  have HB := Lib.hid hB
  clear hB k1 k2
  obtain ⟨a0, a1, a2, a3, a4, a5, a6, a7⟩ := cells8 K1.out
  obtain ⟨b0, b1, b2, b3, b4, b5, b6, b7⟩ := cells8 K2.out
  have fa := fun i => Blk.free K1.out i
  have fb := fun i => Blk.free K2.out i
  go_wp2_with fail
  refine (hs _).mono ?_
  have k1 := K1.out
  have k2 := K2.out
  have hb := HB.out
  rintro e w2 ⟨rfl, hB⟩
  clear a0 a1 a2 a3 a4 a5 a6 a7 b0 b1 b2 b3 b4 b5 b6 b7 fa fb
  have K1 := Lib.hid (k1.below hB)
  have K2 := Lib.hid (k2.below hB)
  have HB := Lib.hid (hb.trans (hB.mono hb.size))
  clear hB k1 k2 hb
  obtain ⟨a0, a1, a2, a3, a4, a5, a6, a7⟩ := cells8 K1.out
  obtain ⟨b0, b1, b2, b3, b4, b5, b6, b7⟩ := cells8 K2.out
  have fa := fun i => Blk.free K1.out i
  have fb := fun i => Blk.free K2.out i
  go_wp2_with fail
  go_region
  go_wp2_with fail
  refine bodyPost_ret (results_tct (v := 2) (p := 3) (u := 4) (ty := 32) (by kernel_rfl) _ _ (w.heap.size + 1) 32 #[.int .i64 0, .bool false, .int .i64 0, .int .i64 ls, .int .i64 vo, .int .i64 va, .bool gd, .bool false] _ rfl (blk_drew (blk_put8 (Blk.far (Blk.far (Blk.far K2.out (p := ⟨w.heap.size, 7, none⟩) (by simp) (.bool false)) (p := ⟨w.heap.size, 0, none⟩) (by simp) (.int .i64 0)) (p := ⟨w.heap.size, 1, none⟩) (by simp) (.bool false)) (.int .i64 0) (.bool false) (.int .i64 0) (.int .i64 ls) (.int .i64 vo) (.int .i64 va) (.bool gd) (.bool false))) Tryz.underlying32 rfl (by kernel_rfl)) rfl ?_
  exact ⟨rfl, below_drew (below_put8 (Below.setCell (Below.setCell (Below.setCell HB.out (p := ⟨w.heap.size, 7, none⟩) (by simp) (.bool false)) (p := ⟨w.heap.size, 0, none⟩) (by simp) (.int .i64 0)) (p := ⟨w.heap.size, 1, none⟩) (by simp) (.bool false)) (by omega) _ _ _ _ _ _ _ _)⟩
theorem tstart_t_ready (ls va vo : Int) (n : Int) (hc : ∀ w, Calls Tryz.prog 70 #[.agg #[.int .i64 1, .bool false, .int .i64 n, .int .i64 ls, .int .i64 vo, .int .i64 va, .bool true, .bool true]] w fun e w' => e = .returned (.bool true) ∧ Below w.heap.size w w') (hs : ∀ w, Calls Tryz.prog 76 #[.agg #[.int .i64 1, .bool false, .int .i64 n, .int .i64 ls, .int .i64 vo, .int .i64 va, .bool true, .bool true]] w fun e w' => e = .returned (.int .i64 1) ∧ Below w.heap.size w w') (w : World) : Calls Tryz.prog 50 #[.agg #[.int .i64 1, .bool false, .int .i64 n, .int .i64 ls, .int .i64 vo, .int .i64 va, .bool true, .bool true]] w fun e w' => e = .returned (.tuple #[.int .i64 1, .agg #[.int .i64 1, .bool false, .int .i64 n, .int .i64 ls, .int .i64 vo, .int .i64 va, .bool true, .bool true], .int .i64 0]) ∧ Below w.heap.size w w' := by
  have hb0 := bits01
  have hb1 := bits11
  go_enter Tryz.func50, Tryz.ntmps50
  go_wp2_with fail
  refine (hc _).mono ?_
  rintro e w1 ⟨rfl, hB⟩
  obtain ⟨k1, k2, hB⟩ := two8 hB
  have K1 := Lib.hid k1
  have K2 := Lib.hid k2
  have HB := Lib.hid hB
  clear hB k1 k2
  obtain ⟨a0, a1, a2, a3, a4, a5, a6, a7⟩ := cells8 K1.out
  obtain ⟨b0, b1, b2, b3, b4, b5, b6, b7⟩ := cells8 K2.out
  have fa := fun i => Blk.free K1.out i
  have fb := fun i => Blk.free K2.out i
  go_wp2_with fail
  refine (hs _).mono ?_
  have k1 := K1.out
  have k2 := K2.out
  have hb := HB.out
  rintro e w2 ⟨rfl, hB⟩
  clear a0 a1 a2 a3 a4 a5 a6 a7 b0 b1 b2 b3 b4 b5 b6 b7 fa fb
  have K1 := Lib.hid (k1.below hB)
  have K2 := Lib.hid (k2.below hB)
  have HB := Lib.hid (hb.trans (hB.mono hb.size))
  clear hB k1 k2 hb
  obtain ⟨a0, a1, a2, a3, a4, a5, a6, a7⟩ := cells8 K1.out
  obtain ⟨b0, b1, b2, b3, b4, b5, b6, b7⟩ := cells8 K2.out
  have fa := fun i => Blk.free K1.out i
  have fb := fun i => Blk.free K2.out i
  go_wp2_with fail
  go_region
  go_wp2_with fail
  refine bodyPost_ret (results_tct (v := 2) (p := 3) (u := 4) (ty := 32) (by kernel_rfl) _ _ (w.heap.size + 1) 32 #[.int .i64 1, .bool false, .int .i64 n, .int .i64 ls, .int .i64 vo, .int .i64 va, .bool true, .bool true] _ rfl (blk_drew (blk_put8 K2.out (.int .i64 1) (.bool false) (.int .i64 n) (.int .i64 ls) (.int .i64 vo) (.int .i64 va) (.bool true) (.bool true))) Tryz.underlying32 rfl (by kernel_rfl)) rfl ?_
  exact ⟨rfl, below_drew (below_put8 HB.out (by omega) _ _ _ _ _ _ _ _)⟩
theorem tstart_t_plain (ls va vo : Int) (n : Int) (hc : ∀ w, Calls Tryz.prog 70 #[.agg #[.int .i64 1, .bool false, .int .i64 n, .int .i64 ls, .int .i64 vo, .int .i64 va, .bool false, .bool true]] w fun e w' => e = .returned (.bool true) ∧ Below w.heap.size w w') (hs : ∀ w, Calls Tryz.prog 76 #[.agg #[.int .i64 1, .bool false, .int .i64 n, .int .i64 ls, .int .i64 vo, .int .i64 va, .bool false, .bool true]] w fun e w' => e = .returned (.int .i64 0) ∧ Below w.heap.size w w') (w : World) : Calls Tryz.prog 50 #[.agg #[.int .i64 1, .bool false, .int .i64 n, .int .i64 ls, .int .i64 vo, .int .i64 va, .bool false, .bool true]] w fun e w' => e = .returned (.tuple #[.int .i64 1, .agg #[.int .i64 1, .bool false, .int .i64 n, .int .i64 ls, .int .i64 vo, .int .i64 va, .bool false, .bool true], .int .i64 0]) ∧ Below w.heap.size w w' := by
  have hb0 := bits01
  have hb1 := bits11
  go_enter Tryz.func50, Tryz.ntmps50
  go_wp2_with fail
  refine (hc _).mono ?_
  rintro e w1 ⟨rfl, hB⟩
  obtain ⟨k1, k2, hB⟩ := two8 hB
  have K1 := Lib.hid k1
  have K2 := Lib.hid k2
  have HB := Lib.hid hB
  clear hB k1 k2
  obtain ⟨a0, a1, a2, a3, a4, a5, a6, a7⟩ := cells8 K1.out
  obtain ⟨b0, b1, b2, b3, b4, b5, b6, b7⟩ := cells8 K2.out
  have fa := fun i => Blk.free K1.out i
  have fb := fun i => Blk.free K2.out i
  go_wp2_with fail
  refine (hs _).mono ?_
  have k1 := K1.out
  have k2 := K2.out
  have hb := HB.out
  rintro e w2 ⟨rfl, hB⟩
  clear a0 a1 a2 a3 a4 a5 a6 a7 b0 b1 b2 b3 b4 b5 b6 b7 fa fb
  have K1 := Lib.hid (k1.below hB)
  have K2 := Lib.hid (k2.below hB)
  have HB := Lib.hid (hb.trans (hB.mono hb.size))
  clear hB k1 k2 hb
  obtain ⟨a0, a1, a2, a3, a4, a5, a6, a7⟩ := cells8 K1.out
  obtain ⟨b0, b1, b2, b3, b4, b5, b6, b7⟩ := cells8 K2.out
  have fa := fun i => Blk.free K1.out i
  have fb := fun i => Blk.free K2.out i
  go_wp2_with fail
  go_region
  go_wp2_with fail
  refine bodyPost_ret (results_tct (v := 2) (p := 3) (u := 4) (ty := 32) (by kernel_rfl) _ _ (w.heap.size + 1) 32 #[.int .i64 1, .bool false, .int .i64 n, .int .i64 ls, .int .i64 vo, .int .i64 va, .bool false, .bool true] _ rfl (blk_drew (blk_put8 K2.out (.int .i64 1) (.bool false) (.int .i64 n) (.int .i64 ls) (.int .i64 vo) (.int .i64 va) (.bool false) (.bool true))) Tryz.underlying32 rfl (by kernel_rfl)) rfl ?_
  exact ⟨rfl, below_drew (below_put8 HB.out (by omega) _ _ _ _ _ _ _ _)⟩
end Go.Proofs.YticnmogeknlmeaaGreatDoor.B
