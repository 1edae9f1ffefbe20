/- Helper: a plain picture's image is checked; walked. No condition. -/
import Derived.Test.YticnmogeknlmeaaGreatDoorNZp
namespace Go.Proofs.YticnmogeknlmeaaGreatDoor.B
open Go.RowKit Go.Maps Go.Proofs.YticnmogeknlmeaaGreatDoorW.PrintWords Go.Proofs.YticnmogeknlmeaaGreatDoor.Later
set_option maxRecDepth 100000
set_option maxHeartbeats 4000000
def zero22 : Array Value := #[.int .i64 0, .int .i64 0, .bool false, .int .i64 0, .int .i64 0, .int .i64 0, .int .i64 0, .bool false, .bool false, .int .i64 0, .int .i64 0, .string { data := #[] }, .int .i64 0, .int .i64 0, .string { data := #[] }, .string { data := #[] }, .string { data := #[] }, .int .i64 0, .int .i64 0, .string { data := #[] }, .string { data := #[] }, .bool false]
theorem box2 (w : World) (A : Array Value) : Below w.heap.size w ((w.alloc (.cells A 38)).alloc (.cells #[.int .i64 0, .int .i64 0, .bool false, .int .i64 0, .int .i64 0, .int .i64 0, .int .i64 0, .bool false, .bool false, .int .i64 0, .int .i64 0, .string { data := #[] }, .int .i64 0, .int .i64 0, .string { data := #[] }, .string { data := #[] }, .string { data := #[] }, .int .i64 0, .int .i64 0, .string { data := #[] }, .string { data := #[] }, .bool false] 38)) ∧ Blk ((w.alloc (.cells A 38)).alloc (.cells #[.int .i64 0, .int .i64 0, .bool false, .int .i64 0, .int .i64 0, .int .i64 0, .int .i64 0, .bool false, .bool false, .int .i64 0, .int .i64 0, .string { data := #[] }, .int .i64 0, .int .i64 0, .string { data := #[] }, .string { data := #[] }, .string { data := #[] }, .int .i64 0, .int .i64 0, .string { data := #[] }, .string { data := #[] }, .bool false] 38)) w.heap.size A 38 ∧ Blk ((w.alloc (.cells A 38)).alloc (.cells #[.int .i64 0, .int .i64 0, .bool false, .int .i64 0, .int .i64 0, .int .i64 0, .int .i64 0, .bool false, .bool false, .int .i64 0, .int .i64 0, .string { data := #[] }, .int .i64 0, .int .i64 0, .string { data := #[] }, .string { data := #[] }, .string { data := #[] }, .int .i64 0, .int .i64 0, .string { data := #[] }, .string { data := #[] }, .bool false] 38)) (w.heap.size + 1) zero22 38 := by
  have h1 := (Below.refl w.heap.size w).alloc (Nat.le_refl _) (.cells A 38)
  have e : (w.alloc (.cells A 38)).heap.size = w.heap.size + 1 := by simp
  refine ⟨h1.alloc (by rw [e]; omega) _, (Blk.new w A 38).below ((Below.refl _ _).alloc (Nat.le_refl _) _), ?_⟩
  have := Blk.new (w.alloc (.cells A 38)) zero22 38
  rw [e] at this
  exact this
def Pl.finalize (P : Pl) : Int × Pl :=
  if P.is = false then (224, P) else if P.got.length ≠ P.p.n then (222, P) else if shaL P.got ≠ P.p.d then (223, P) else match P.b.ready with
    | .error e => (e, P)
    | .ok b => (0, { P with m := setB P.m (!P.b.ac) P.p, is := false, b := b, got := [] })
theorem pfin_idle (P : Pl) (hi : P.is = false) (w : World) : Calls Tryz.prog 35 #[.agg P.V] w fun e w' => e = .returned (.tuple #[.agg P.V, .int .i64 224]) ∧ Below w.heap.size w w' := by
  have hbx := Lib.hid (box2 w P.V)
  go_enter Tryz.func35, Tryz.ntmps35
  go_upto_region 1 with fail
  obtain ⟨hB, k1, k2⟩ := hbx.out
  generalize ((w.alloc (.cells P.V 38)).alloc (.cells #[.int .i64 0, .int .i64 0, .bool false, .int .i64 0, .int .i64 0, .int .i64 0, .int .i64 0, .bool false, .bool false, .int .i64 0, .int .i64 0, .string { data := #[] }, .int .i64 0, .int .i64 0, .string { data := #[] }, .string { data := #[] }, .string { data := #[] }, .int .i64 0, .int .i64 0, .string { data := #[] }, .string { data := #[] }, .bool false] 38)) = W at hB k1 k2 ⊢
  have HB := Lib.hid hB
  have K1 := Lib.hid k1
  have K2 := Lib.hid k2
  clear hB k1 k2 hbx
  have hg1 := HB.out.size
  have k21 : W.cell? ⟨w.heap.size, 21, none⟩ = some (.bool false) := by rw [K1.out.cell, P.c21, hi]
  go_wp2_with (first
    | (refine wpList_load_row rfl 38 (.tmp 1) rfl w.heap.size rfl 38 P.V (0, 0) _ K1.out Tryz.underlying38 rfl P.i ?_)
    | (refine wpList_store_row rfl 38 (.tmp 2) (.tmp 10) rfl (w.heap.size + 1) P.V rfl rfl 38 zero22 K2.out P.i (by rw [P.n]; rfl) P.o ?_)
    | fail)
  refine bodyPost_ret (results_ct (p := 2) (u := 3) (ty := 38) (by kernel_rfl) _ _ (w.heap.size + 1) 38 P.V _ rfl (K2.out.row P.V) Tryz.underlying38 rfl P.i) rfl ?_
  exact ⟨rfl, below_setRow HB.out (by omega) _⟩
theorem pfin_len (P : Pl) (hi : P.is = true) (hl : P.got.length ≠ P.p.n) (w : World) : Calls Tryz.prog 35 #[.agg P.V] w fun e w' => e = .returned (.tuple #[.agg P.V, .int .i64 222]) ∧ Below w.heap.size w w' := by
  have hbx := Lib.hid (box2 w P.V)
  go_enter Tryz.func35, Tryz.ntmps35
  go_upto_region 1 with fail
  obtain ⟨hB, k1, k2⟩ := hbx.out
  generalize ((w.alloc (.cells P.V 38)).alloc (.cells #[.int .i64 0, .int .i64 0, .bool false, .int .i64 0, .int .i64 0, .int .i64 0, .int .i64 0, .bool false, .bool false, .int .i64 0, .int .i64 0, .string { data := #[] }, .int .i64 0, .int .i64 0, .string { data := #[] }, .string { data := #[] }, .string { data := #[] }, .int .i64 0, .int .i64 0, .string { data := #[] }, .string { data := #[] }, .bool false] 38)) = W at hB k1 k2 ⊢
  have HB := Lib.hid hB
  have K1 := Lib.hid k1
  have K2 := Lib.hid k2
  clear hB k1 k2 hbx
  have hg1 := HB.out.size
  have k21 : W.cell? ⟨w.heap.size, 21, none⟩ = some (.bool true) := by rw [K1.out.cell, P.c21, hi]
  have k20 : W.cell? ⟨w.heap.size, 20, none⟩ = some (.string (bs P.got)) := by rw [K1.out.cell, P.c20]
  have k18 : W.cell? ⟨w.heap.size, 18, none⟩ = some (.int .i64 (P.p.n : Int)) := by rw [K1.out.cell, P.c18]
  have hsz := bs_size P.got
  have hne : ((P.got.length : Int) != (P.p.n : Int)) = true := by rw [bne_iff_ne]; omega
  go_wp2_with (first
    | (refine wpList_load_row rfl 38 (.tmp 1) rfl w.heap.size rfl 38 P.V (0, 0) _ K1.out Tryz.underlying38 rfl P.i ?_)
    | (refine wpList_store_row rfl 38 (.tmp 2) (.tmp 19) rfl (w.heap.size + 1) P.V rfl rfl 38 zero22 K2.out P.i (by rw [P.n]; rfl) P.o ?_)
    | fail)
  refine bodyPost_ret (results_ct (p := 2) (u := 3) (ty := 38) (by kernel_rfl) _ _ (w.heap.size + 1) 38 P.V _ rfl (K2.out.row P.V) Tryz.underlying38 rfl P.i) rfl ?_
  exact ⟨rfl, below_setRow HB.out (by omega) _⟩
theorem pfin_dig (P : Pl) (hi : P.is = true) (hg : P.got.length < 4294967296) (hl : P.got.length = P.p.n) (hd : shaL P.got ≠ P.p.d) (w : World) : Calls Tryz.prog 35 #[.agg P.V] w fun e w' => e = .returned (.tuple #[.agg P.V, .int .i64 223]) ∧ Below w.heap.size w w' := by
  have hdn : ((bs (shaL P.got)).toList == (bs P.p.d).toList) = false := by rw [bs_toList, bs_toList]; simpa using hd
  have hbx := Lib.hid (box2 w P.V)
  go_enter Tryz.func35, Tryz.ntmps35
  go_upto_region 1 with fail
  obtain ⟨hB, k1, k2⟩ := hbx.out
  generalize ((w.alloc (.cells P.V 38)).alloc (.cells #[.int .i64 0, .int .i64 0, .bool false, .int .i64 0, .int .i64 0, .int .i64 0, .int .i64 0, .bool false, .bool false, .int .i64 0, .int .i64 0, .string { data := #[] }, .int .i64 0, .int .i64 0, .string { data := #[] }, .string { data := #[] }, .string { data := #[] }, .int .i64 0, .int .i64 0, .string { data := #[] }, .string { data := #[] }, .bool false] 38)) = W at hB k1 k2 ⊢
  have HB := Lib.hid hB
  have K1 := Lib.hid k1
  have K2 := Lib.hid k2
  clear hB k1 k2 hbx
  have hg1 := HB.out.size
  have k21 : W.cell? ⟨w.heap.size, 21, none⟩ = some (.bool true) := by rw [K1.out.cell, P.c21, hi]
  have k20 : W.cell? ⟨w.heap.size, 20, none⟩ = some (.string (bs P.got)) := by rw [K1.out.cell, P.c20]
  have k19 : W.cell? ⟨w.heap.size, 19, none⟩ = some (.string (bs P.p.d)) := by rw [K1.out.cell, P.c19]
  have k18 : W.cell? ⟨w.heap.size, 18, none⟩ = some (.int .i64 (P.p.n : Int)) := by rw [K1.out.cell, P.c18]
  have hsz := bs_size P.got
  have hne : ((P.got.length : Int) != (P.p.n : Int)) = false := by rw [hl]; simp
  have Hsum := Lib.hid (fun W => refSum_any P.got hg W)
  clear hl
  go_upto_region 5 with fail
  have l20 := fun n => later_cell k20 n
  have l19 := fun n => later_cell k19 n
  clear k20 k19 k18 k21
  refine wp_region_later (by kernel_rfl) (by kernel_rfl) ?_
  repeat go_big_quiet_step (fail)
  go_big_quiet_step (with_reducible exact calls_later (fun w1 _ => Hsum.out w1) _)
  repeat go_big_quiet_step (fail)
  refine wpQuiet_nil ?_
  intro w5 hw5
  have hb5 := later_of hw5
  have HB5 := Lib.hid (HB.out.trans (hb5.mono HB.out.size))
  have K15 := Lib.hid (K1.out.below hb5)
  have K25 := Lib.hid (K2.out.below hb5)
  have hg5 := HB5.out.size
  clear hw5 hb5 l20 l19
  go_wp2_with (first
    | (refine wpList_load_row rfl 38 (.tmp 1) rfl w.heap.size rfl 38 P.V (0, 0) _ K15.out Tryz.underlying38 rfl P.i ?_)
    | (refine wpList_store_row rfl 38 (.tmp 2) (.tmp 28) rfl (w.heap.size + 1) P.V rfl rfl 38 zero22 K25.out P.i (by rw [P.n]; rfl) P.o ?_)
    | fail)
  refine bodyPost_ret (results_ct (p := 2) (u := 3) (ty := 38) (by kernel_rfl) _ _ (w.heap.size + 1) 38 P.V _ rfl (K25.out.row P.V) Tryz.underlying38 rfl P.i) rfl ?_
  exact ⟨rfl, below_setRow HB5.out (by omega) _⟩
theorem pfin_err (P : Pl) (hb : P.b.Ok) (hi : P.is = true) (hg : P.got.length < 4294967296) (hl : P.got.length = P.p.n) (hd : shaL P.got = P.p.d) (e : Int) (he : e ≠ 0) (hr : P.b.ready = .error e) (w : World) : Calls Tryz.prog 35 #[.agg P.V] w fun r w' => r = .returned (.tuple #[.agg P.V, .int .i64 e]) ∧ Below w.heap.size w w' := by
  have hdn : ((bs (shaL P.got)).toList == (bs P.p.d).toList) = true := by rw [bs_toList, bs_toList]; simpa using hd
  have hact := fun W => ract1_any P.b hb 0 W
  rw [hr] at hact
  have Hact := Lib.hid (fun W => (show Calls Tryz.prog 36 #[.agg P.b.V, .int .i64 1, .int .i64 0] W fun r w' => r = .returned (.tuple #[.agg #[.int .i64 0, .bool false, .int .i64 0, .int .i64 0, .int .i64 0, .int .i64 0, .bool false, .bool false], .int .i64 e]) ∧ Below W.heap.size W w' from hact W))
  clear hact hd hr
  have hbx := Lib.hid (box2 w P.V)
  go_enter Tryz.func35, Tryz.ntmps35
  go_upto_region 1 with fail
  obtain ⟨hB, k1, k2⟩ := hbx.out
  generalize ((w.alloc (.cells P.V 38)).alloc (.cells #[.int .i64 0, .int .i64 0, .bool false, .int .i64 0, .int .i64 0, .int .i64 0, .int .i64 0, .bool false, .bool false, .int .i64 0, .int .i64 0, .string { data := #[] }, .int .i64 0, .int .i64 0, .string { data := #[] }, .string { data := #[] }, .string { data := #[] }, .int .i64 0, .int .i64 0, .string { data := #[] }, .string { data := #[] }, .bool false] 38)) = W at hB k1 k2 ⊢
  have HB := Lib.hid hB
  have K1 := Lib.hid k1
  have K2 := Lib.hid k2
  clear hB k1 k2 hbx
  have hg1 := HB.out.size
  have k21 : W.cell? ⟨w.heap.size, 21, none⟩ = some (.bool true) := by rw [K1.out.cell, P.c21, hi]
  have k20 : W.cell? ⟨w.heap.size, 20, none⟩ = some (.string (bs P.got)) := by rw [K1.out.cell, P.c20]
  have k19 : W.cell? ⟨w.heap.size, 19, none⟩ = some (.string (bs P.p.d)) := by rw [K1.out.cell, P.c19]
  have k18 : W.cell? ⟨w.heap.size, 18, none⟩ = some (.int .i64 (P.p.n : Int)) := by rw [K1.out.cell, P.c18]
  have hsz := bs_size P.got
  have hne : ((P.got.length : Int) != (P.p.n : Int)) = false := by rw [hl]; simp
  have Hsum := Lib.hid (fun W => refSum_any P.got hg W)
  clear hl
  go_upto_region 5 with fail
  have l20 := fun n => later_cell k20 n
  have l19 := fun n => later_cell k19 n
  clear k20 k19 k18 k21
  refine wp_region_later (by kernel_rfl) (by kernel_rfl) ?_
  repeat go_big_quiet_step (fail)
  go_big_quiet_step (with_reducible exact calls_later (fun w1 _ => Hsum.out w1) _)
  repeat go_big_quiet_step (fail)
  refine wpQuiet_nil ?_
  intro w5 hw5
  have hb5 := later_of hw5
  have HB5 := Lib.hid (HB.out.trans (hb5.mono HB.out.size))
  have K15 := Lib.hid (K1.out.below hb5)
  have K25 := Lib.hid (K2.out.below hb5)
  have hg5 := HB5.out.size
  clear hw5 hb5 l20 l19
  go_wp2_with (first
    | (refine wpList_load_blk rfl 32 (.tmp 30) rfl w.heap.size 1 rfl P.V P.b.V 38 _ K15.out P.at_b Tryz.underlying32 rfl (by obtain ⟨_, _, _, _, _, _, _, _, h, _⟩ := P.b.V_lit; rw [h]; exact size32) ?_)
    | fail)
  refine (Hact.out _).mono ?_
  rintro _ w7 ⟨rfl, hB⟩
  have HB7 := Lib.hid ((HB5.out.trans (hB.mono hg5)).alloc ((HB5.out.trans (hB.mono hg5)).size) (.cells #[.int .i64 0, .bool false, .int .i64 0, .int .i64 0, .int .i64 0, .int .i64 0, .bool false, .bool false] 32))
  have hba : Below w7.heap.size w7 (w7.alloc (.cells #[.int .i64 0, .bool false, .int .i64 0, .int .i64 0, .int .i64 0, .int .i64 0, .bool false, .bool false] 32)) := (Below.refl _ _).alloc (Nat.le_refl _) _
  have K17 := Lib.hid ((K15.out.below hB).below hba)
  have K27 := Lib.hid ((K25.out.below hB).below hba)
  clear hB hba
  have hne0 : (e != 0) = true := by rw [bne_iff_ne]; exact he
  go_wp2_with (first
    | (refine wpList_load_row rfl 38 (.tmp 1) rfl w.heap.size rfl 38 P.V (0, 0) _ K17.out Tryz.underlying38 rfl P.i ?_)
    | (refine wpList_store_row rfl 38 (.tmp 2) (.tmp 37) rfl (w.heap.size + 1) P.V rfl rfl 38 zero22 K27.out P.i (by rw [P.n]; rfl) P.o ?_)
    | fail)
  refine bodyPost_ret (results_ct (p := 2) (u := 3) (ty := 38) (by kernel_rfl) _ _ (w.heap.size + 1) 38 P.V _ rfl (K27.out.row P.V) Tryz.underlying38 rfl P.i) rfl ?_
  exact ⟨rfl, below_setRow HB7.out (by omega) _⟩
theorem Bt.V_size (b : Bt) : b.V.size = 8 := by obtain ⟨_, _, _, _, _, _, _, _, h, _⟩ := b.V_lit; rw [h]; rfl
theorem Bt.V_i (b : Bt) : (Tryz.prog.info? 32).map (·.size) = some b.V.size := by rw [size32, b.V_size]
theorem Bt.V_o (b : Bt) : b.V.all (·.oneCell') = true := by obtain ⟨_, _, _, _, _, _, _, _, h, _⟩ := b.V_lit; rw [h]; simp [Value.oneCell']
theorem manC_i (m : Man) : (Tryz.prog.info? 34).map (·.size) = some (manC m).toArray.size := by rw [size34]; rfl
theorem manC_o (m : Man) : (manC m).toArray.all (·.oneCell') = true := by simp [manC, Value.oneCell']
theorem pfin_ok (P : Pl) (hb : P.b.Ok) (s : Bool) (hs : P.b.ac = !s) (hi : P.is = true) (hg : P.got.length < 4294967296) (hl : P.got.length = P.p.n) (hd : shaL P.got = P.p.d) (b : Bt) (hr : P.b.ready = .ok b) (R : Pl) (hR : R = { P with m := setB P.m s P.p, is := false, b := b, got := [] }) (w : World) :
    Calls Tryz.prog 35 #[.agg P.V] w fun r w' => r = .returned (.tuple #[.agg R.V, .int .i64 0]) ∧ Below w.heap.size w w' := by
  have hdn : ((bs (shaL P.got)).toList == (bs P.p.d).toList) = true := by rw [bs_toList, bs_toList]; simpa using hd
  have hact := fun W => ract1_any P.b hb 0 W
  rw [hr] at hact
  have Hact := Lib.hid (fun W => (show Calls Tryz.prog 36 #[.agg P.b.V, .int .i64 1, .int .i64 0] W fun r w' => r = .returned (.tuple #[.agg b.V, .int .i64 0]) ∧ Below W.heap.size W w' from hact W))
  clear hact hd hr
  have hbx := Lib.hid (box2 w P.V)
  go_enter Tryz.func35, Tryz.ntmps35
  go_upto_region 1 with fail
  obtain ⟨hB, k1, k2⟩ := hbx.out
  generalize ((w.alloc (.cells P.V 38)).alloc (.cells #[.int .i64 0, .int .i64 0, .bool false, .int .i64 0, .int .i64 0, .int .i64 0, .int .i64 0, .bool false, .bool false, .int .i64 0, .int .i64 0, .string { data := #[] }, .int .i64 0, .int .i64 0, .string { data := #[] }, .string { data := #[] }, .string { data := #[] }, .int .i64 0, .int .i64 0, .string { data := #[] }, .string { data := #[] }, .bool false] 38)) = W at hB k1 k2 ⊢
  have HB := Lib.hid hB
  have K1 := Lib.hid k1
  have K2 := Lib.hid k2
  clear hB k1 k2 hbx
  have hg1 := HB.out.size
  have k21 : W.cell? ⟨w.heap.size, 21, none⟩ = some (.bool true) := by rw [K1.out.cell, P.c21, hi]
  have k20 : W.cell? ⟨w.heap.size, 20, none⟩ = some (.string (bs P.got)) := by rw [K1.out.cell, P.c20]
  have k19 : W.cell? ⟨w.heap.size, 19, none⟩ = some (.string (bs P.p.d)) := by rw [K1.out.cell, P.c19]
  have k18 : W.cell? ⟨w.heap.size, 18, none⟩ = some (.int .i64 (P.p.n : Int)) := by rw [K1.out.cell, P.c18]
  have hsz := bs_size P.got
  have hne : ((P.got.length : Int) != (P.p.n : Int)) = false := by rw [hl]; simp
  have Hsum := Lib.hid (fun W => refSum_any P.got hg W)
  clear hl
  go_upto_region 5 with fail
  have l20 := fun n => later_cell k20 n
  have l19 := fun n => later_cell k19 n
  clear k20 k19 k18 k21
  refine wp_region_later (by kernel_rfl) (by kernel_rfl) ?_
  repeat go_big_quiet_step (fail)
  go_big_quiet_step (with_reducible exact calls_later (fun w1 _ => Hsum.out w1) _)
  repeat go_big_quiet_step (fail)
  refine wpQuiet_nil ?_
  intro w5 hw5
  have hb5 := later_of hw5
  have HB5 := Lib.hid (HB.out.trans (hb5.mono HB.out.size))
  have K15 := Lib.hid (K1.out.below hb5)
  have K25 := Lib.hid (K2.out.below hb5)
  have hg5 := HB5.out.size
  clear hw5 hb5 l20 l19
  go_wp2_with (first
    | (refine wpList_load_blk rfl 32 (.tmp 30) rfl w.heap.size 1 rfl P.V P.b.V 38 _ K15.out P.at_b Tryz.underlying32 rfl P.b.V_i ?_)
    | fail)
  refine (Hact.out _).mono ?_
  rintro _ w7 ⟨rfl, hB⟩
  have hba : Below w7.heap.size w7 (w7.alloc (.cells #[.int .i64 0, .bool false, .int .i64 0, .int .i64 0, .int .i64 0, .int .i64 0, .bool false, .bool false] 32)) := (Below.refl _ _).alloc (Nat.le_refl _) _
  have K47 := Lib.hid (Blk.new w7 #[.int .i64 0, .bool false, .int .i64 0, .int .i64 0, .int .i64 0, .int .i64 0, .bool false, .bool false] 32)
  have hs7 := (HB5.out.trans (hB.mono hg5)).size
  have hw78 := hB.size
  have HB7 := Lib.hid (below_setRow ((HB5.out.trans (hB.mono hg5)).trans (hba.mono hs7)) hs7 b.V)
  have K17 := Lib.hid (((K15.out.below hB).below hba).rowFar (g := w7.heap.size) (by have := K15.out.lt; omega) b.V)
  have K27 := Lib.hid (((K25.out.below hB).below hba).rowFar (g := w7.heap.size) (by have := K25.out.lt; omega) b.V)
  have K48 := Lib.hid (K47.out.row b.V)
  have hg2 : w.heap.size + 1 < w7.heap.size := by have := K25.out.lt; omega
  clear hB hba
  go_upto_region 10 with (first
    | (refine wpList_store_row rfl 32 (.tmp 4) (.tmp 33) rfl w7.heap.size b.V rfl rfl 32 _ K47.out b.V_i (by rw [b.V_size]; rfl) b.V_o ?_)
    | fail)
  clear K47
  generalize ((w7.alloc (.cells #[.int .i64 0, .bool false, .int .i64 0, .int .i64 0, .int .i64 0, .int .i64 0, .bool false, .bool false] 32)).setRow w7.heap.size b.V) = W8 at HB7 K17 K27 K48 ⊢
  have k1 : W8.cell? ⟨w.heap.size, 1, none⟩ = some (.int .i64 (bAc P.b)) := by rw [K17.out.cell, P.c1]
  obtain ⟨P1, hP1⟩ : ∃ P1 : Pl, P1 = { P with m := setB P.m s P.p } := ⟨_, rfl⟩
  obtain ⟨P2, hP2⟩ : ∃ P2 : Pl, P2 = { P1 with is := false } := ⟨_, rfl⟩
  have e1 : overA P.V (9 + 3 * sI s) (manC P.p) = P1.V := by rw [hP1]; exact P.set_m s P.p
  have e2 : P1.V.setIfInBounds 21 (.bool false) = P2.V := by rw [hP2]; exact P1.set_is false
  have L1 := K17.out.row P1.V
  have k21 : (W8.setRow w.heap.size P1.V).cell? ⟨w.heap.size, 21, none⟩ = some (.bool P1.is) := by rw [L1.cell, P1.c21]
  have f21 : (W8.setRow w.heap.size P1.V).frozen? ⟨w.heap.size, 21, none⟩ = false := L1.free 21
  have L2 := L1.set 21 (.bool false)
  rw [e2] at L2
  have HL2 := Lib.hid L2
  have M2 := Lib.hid ((K27.out.rowFar (show w.heap.size + 1 ≠ w.heap.size by omega) P1.V).far (p := ⟨w.heap.size, 21, none⟩) (by show w.heap.size + 1 ≠ w.heap.size; omega) (.bool false))
  have N2 := Lib.hid ((K48.out.rowFar (show w7.heap.size ≠ w.heap.size by omega) P1.V).far (p := ⟨w.heap.size, 21, none⟩) (by show w7.heap.size ≠ w.heap.size; omega) (.bool false))
  have HB8 := Lib.hid ((below_setRow HB7.out (Nat.le_refl _) P1.V).setCell (p := ⟨w.heap.size, 21, none⟩) (Nat.le_refl _) (.bool false))
  have hac : bAc P.b = (if s then 0 else 1) := by unfold bAc; rw [hs]; cases s <;> rfl
  rw [hac] at k1
  have HR := Lib.hid hR
  have HE1 := Lib.hid e1
  have HP1 := Lib.hid hP1
  have HP2 := Lib.hid hP2
  clear hR hac hP1 hP2 e1 e2 L2 L1 hi hb hs
  cases s
  all_goals
    have k1' := k1
    clear k1
    simp only [if_true, Bool.false_eq_true, if_false] at k1'
    go_upto_region 11 with (first
      | (refine wpList_load_blk rfl 34 (.tmp 43) rfl w.heap.size 17 rfl P.V (manC P.p).toArray 38 _ K17.out (fun j v h => P.at_p j v (by simpa using h)) Tryz.underlying34 rfl (manC_i _) ?_)
      | (refine wpList_store_blk rfl 34 (.tmp 46) (.tmp 44) rfl w.heap.size 9 (manC P.p).toArray rfl rfl 38 P.V K17.out (manC_i _) (by rw [P.n]; show _ + 3 ≤ 22; omega) (manC_o _) ?_; rw [show overA P.V 9 (manC P.p).toArray.toList = P1.V from HE1.out])
      | (refine wpList_store_blk rfl 34 (.tmp 46) (.tmp 44) rfl w.heap.size 12 (manC P.p).toArray rfl rfl 38 P.V K17.out (manC_i _) (by rw [P.n]; show _ + 3 ≤ 22; omega) (manC_o _) ?_; rw [show overA P.V 12 (manC P.p).toArray.toList = P1.V from HE1.out])
      | fail)
    generalize ((W8.setRow w.heap.size P1.V).setCell ⟨w.heap.size, 21, none⟩ (.bool false)) = W9 at HL2 M2 N2 HB8 ⊢
    obtain ⟨P3, hP3⟩ : ∃ P3 : Pl, P3 = { P2 with b := b } := ⟨_, rfl⟩
    obtain ⟨P4, hP4⟩ : ∃ P4 : Pl, P4 = { P3 with got := [] } := ⟨_, rfl⟩
    have e3 : overA P2.V 1 b.V.toList = P3.V := by rw [hP3]; exact P2.set_b b
    have e4 : P3.V.setIfInBounds 20 (.string (bs [])) = P4.V := by rw [hP4]; exact P3.set_got []
    have L3 := HL2.out.row P3.V
    have k20 : (W9.setRow w.heap.size P3.V).cell? ⟨w.heap.size, 20, none⟩ = some (.string (bs P3.got)) := by rw [L3.cell, P3.c20]
    have f20 : (W9.setRow w.heap.size P3.V).frozen? ⟨w.heap.size, 20, none⟩ = false := L3.free 20
    have L4 := L3.set 20 (.string (bs []))
    rw [e4] at L4
    have HL4 := Lib.hid L4
    have M4 := Lib.hid ((M2.out.rowFar (g := w.heap.size) (by omega) P3.V).far (p := ⟨w.heap.size, 20, none⟩) (by show w.heap.size + 1 ≠ w.heap.size; omega) (.string (bs [])))
    have HB9 := Lib.hid ((below_setRow HB8.out (Nat.le_refl _) P3.V).setCell (p := ⟨w.heap.size, 20, none⟩) (Nat.le_refl _) (.string (bs [])))
    have HE3 := Lib.hid e3
    have hP : P4 = R := by rw [hP4, hP3, HP2.out, HP1.out, HR.out]
    have HP4 := Lib.hid hP
    clear e3 e4 L3 L4 hP3 hP4 hP
    go_upto_region 12 with (first
      | (refine wpList_load_row rfl 32 (.tmp 4) rfl w7.heap.size rfl 32 b.V (0, 0) _ N2.out Tryz.underlying32 rfl b.V_i ?_)
      | (refine wpList_store_blk rfl 32 (.tmp 49) (.tmp 48) rfl w.heap.size 1 b.V rfl rfl 38 P2.V HL2.out b.V_i (by rw [P2.n, b.V_size]; omega) b.V_o ?_; rw [HE3.out])
      | fail)
    go_wp2_with (first
      | (refine wpList_load_row rfl 38 (.tmp 1) rfl w.heap.size rfl 38 P4.V (0, 0) _ HL4.out Tryz.underlying38 rfl P4.i ?_)
      | (refine wpList_store_row rfl 38 (.tmp 2) (.tmp 51) rfl (w.heap.size + 1) P4.V rfl rfl 38 zero22 M4.out P4.i (by rw [P4.n]; rfl) P4.o ?_)
      | fail)
    refine bodyPost_ret (results_ct (p := 2) (u := 3) (ty := 38) (by kernel_rfl) _ _ (w.heap.size + 1) 38 P4.V _ rfl (M4.out.row P4.V) Tryz.underlying38 rfl P4.i) rfl ?_
    exact ⟨by rw [HP4.out]; rfl, below_setRow HB9.out (by omega) _⟩
theorem pfin_any (P : Pl) (hb : P.b.Ok) (hg : P.got.length < 4294967296) (w : World) : Calls Tryz.prog 35 #[.agg P.V] w fun e w' => e = .returned (.tuple #[.agg P.finalize.2.V, .int .i64 P.finalize.1]) ∧ Below w.heap.size w w' := by
  unfold Pl.finalize
  by_cases h1 : P.is = false
  · rw [if_pos h1]
    exact pfin_idle P h1 w
  · rw [if_neg h1]
    have h1 : P.is = true := by simpa using h1
    by_cases h2 : P.got.length ≠ P.p.n
    · rw [if_pos h2]
      exact pfin_len P h1 h2 w
    · rw [if_neg h2]
      have h2 : P.got.length = P.p.n := by omega
      by_cases h3 : shaL P.got ≠ P.p.d
      · rw [if_pos h3]
        exact pfin_dig P h1 hg h2 h3 w
      · rw [if_neg h3]
        have h3 : shaL P.got = P.p.d := Classical.not_not.1 h3
        cases hr : P.b.ready with
        | error e => exact pfin_err P hb h1 hg h2 h3 e ((not_ok0 hb).2.1 hr) hr w
        | ok b => exact pfin_ok P hb (!P.b.ac) (by simp) h1 hg h2 h3 b hr _ rfl w
end Go.Proofs.YticnmogeknlmeaaGreatDoor.B
