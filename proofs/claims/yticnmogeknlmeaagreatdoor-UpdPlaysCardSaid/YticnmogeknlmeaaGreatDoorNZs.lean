/- Helper: into a plain picture the next bytes come; walked. No condition. -/
import Derived.Test.YticnmogeknlmeaaGreatDoorNZr
namespace Go.Proofs.YticnmogeknlmeaaGreatDoor.B
open Go.RowKit Go.Maps Go.Proofs.YticnmogeknlmeaaGreatDoorW.PrintWords Go.Proofs.YticnmogeknlmeaaGreatDoor.Later
set_option maxRecDepth 100000
set_option maxHeartbeats 4000000
def Pl.chunk (P : Pl) (t : Int) (s : List UInt8) : Int × Pl :=
  if P.is = false then (224, P) else if t ≠ P.got.length then (221, P)
  else if s = [] ∨ P.p.n < P.got.length + s.length ∨ 256 < s.length ∨ (s.length % 64 ≠ 0 ∧ P.got.length + s.length ≠ P.p.n) then (222, P)
  else (0, { P with got := P.got ++ s, im := setB P.im (!P.b.ac) (P.got ++ s) })
theorem pchk_idle (P : Pl) (hg : P.got.length < 4294967296) (hn : P.p.n < 4294967296) (hi : P.is = false) (t : Int) (s : List UInt8) (w : World) : Calls Tryz.prog 34 #[.agg P.V, .int .i64 t, .string (bs s)] w fun e w' => e = .returned (.tuple #[.agg P.V, .int .i64 224]) ∧ Below w.heap.size w w' := by
  have hbx := Lib.hid (box2 w P.V)
  go_enter Tryz.func34, Tryz.ntmps34
  go_upto_region 1 with fail
  obtain ⟨hB, k1, k2⟩ := hbx.out
  generalize ((w.alloc (.cells P.V 38)).alloc (.cells #[.int .i64 0, .int .i64 0, .bool false, .int .i64 0, .int .i64 0, .int .i64 0, .int .i64 0, .bool false, .bool false, .int .i64 0, .int .i64 0, .string { data := #[] }, .int .i64 0, .int .i64 0, .string { data := #[] }, .string { data := #[] }, .string { data := #[] }, .int .i64 0, .int .i64 0, .string { data := #[] }, .string { data := #[] }, .bool false] 38)) = W at hB k1 k2 ⊢
  have HB := Lib.hid hB
  have K1 := Lib.hid k1
  have K2 := Lib.hid k2
  clear hB k1 k2 hbx
  have hg1 := HB.out.size
  have k21 : W.cell? ⟨w.heap.size, 21, none⟩ = some (.bool false) := by rw [K1.out.cell, P.c21, hi]
  have k20 : W.cell? ⟨w.heap.size, 20, none⟩ = some (.string (bs P.got)) := by rw [K1.out.cell, P.c20]
  have k18 : W.cell? ⟨w.heap.size, 18, none⟩ = some (.int .i64 (P.p.n : Int)) := by rw [K1.out.cell, P.c18]
  have hsz := bs_size P.got
  go_wp2_with (first
    | (refine wpList_load_row rfl 38 (.tmp 3) rfl w.heap.size rfl 38 P.V (0, 0) _ K1.out Tryz.underlying38 rfl P.i ?_)
    | (refine wpList_store_row rfl 38 (.tmp 6) (.tmp 20) rfl (w.heap.size + 1) P.V rfl rfl 38 zero22 K2.out P.i (by rw [P.n]; rfl) P.o ?_)
    | fail)
  refine bodyPost_ret (results_ct (p := 6) (u := 7) (ty := 38) (by kernel_rfl) _ _ (w.heap.size + 1) 38 P.V _ rfl (K2.out.row P.V) Tryz.underlying38 rfl P.i) rfl ?_
  exact ⟨rfl, below_setRow HB.out (by omega) _⟩
theorem pchk_off (P : Pl) (hg : P.got.length < 4294967296) (hn : P.p.n < 4294967296) (hi : P.is = true) (t : Int) (ht : t ≠ (P.got.length : Int)) (s : List UInt8) (w : World) : Calls Tryz.prog 34 #[.agg P.V, .int .i64 t, .string (bs s)] w fun e w' => e = .returned (.tuple #[.agg P.V, .int .i64 221]) ∧ Below w.heap.size w w' := by
  have hbx := Lib.hid (box2 w P.V)
  go_enter Tryz.func34, Tryz.ntmps34
  go_upto_region 1 with fail
  obtain ⟨hB, k1, k2⟩ := hbx.out
  generalize ((w.alloc (.cells P.V 38)).alloc (.cells #[.int .i64 0, .int .i64 0, .bool false, .int .i64 0, .int .i64 0, .int .i64 0, .int .i64 0, .bool false, .bool false, .int .i64 0, .int .i64 0, .string { data := #[] }, .int .i64 0, .int .i64 0, .string { data := #[] }, .string { data := #[] }, .string { data := #[] }, .int .i64 0, .int .i64 0, .string { data := #[] }, .string { data := #[] }, .bool false] 38)) = W at hB k1 k2 ⊢
  have HB := Lib.hid hB
  have K1 := Lib.hid k1
  have K2 := Lib.hid k2
  clear hB k1 k2 hbx
  have hg1 := HB.out.size
  have k21 : W.cell? ⟨w.heap.size, 21, none⟩ = some (.bool true) := by rw [K1.out.cell, P.c21, hi]
  have k20 : W.cell? ⟨w.heap.size, 20, none⟩ = some (.string (bs P.got)) := by rw [K1.out.cell, P.c20]
  have k18 : W.cell? ⟨w.heap.size, 18, none⟩ = some (.int .i64 (P.p.n : Int)) := by rw [K1.out.cell, P.c18]
  have hsz := bs_size P.got
  have hne : (t != (P.got.length : Int)) = true := bne_iff_ne.2 ht
  go_wp2_with (first
    | (refine wpList_load_row rfl 38 (.tmp 3) rfl w.heap.size rfl 38 P.V (0, 0) _ K1.out Tryz.underlying38 rfl P.i ?_)
    | (refine wpList_store_row rfl 38 (.tmp 6) (.tmp 27) rfl (w.heap.size + 1) P.V rfl rfl 38 zero22 K2.out P.i (by rw [P.n]; rfl) P.o ?_)
    | fail)
  refine bodyPost_ret (results_ct (p := 6) (u := 7) (ty := 38) (by kernel_rfl) _ _ (w.heap.size + 1) 38 P.V _ rfl (K2.out.row P.V) Tryz.underlying38 rfl P.i) rfl ?_
  exact ⟨rfl, below_setRow HB.out (by omega) _⟩
theorem pchk_b0 (P : Pl) (hg : P.got.length < 4294967296) (hn : P.p.n < 4294967296) (hi : P.is = true) (s : List UInt8) (hs : s.length < 1000000) (h0 : s = []) (w : World) : Calls Tryz.prog 34 #[.agg P.V, .int .i64 (P.got.length : Int), .string (bs s)] w fun e w' => e = .returned (.tuple #[.agg P.V, .int .i64 222]) ∧ Below w.heap.size w w' := by
  have hbx := Lib.hid (box2 w P.V)
  go_enter Tryz.func34, Tryz.ntmps34
  go_upto_region 1 with fail
  obtain ⟨hB, k1, k2⟩ := hbx.out
  generalize ((w.alloc (.cells P.V 38)).alloc (.cells #[.int .i64 0, .int .i64 0, .bool false, .int .i64 0, .int .i64 0, .int .i64 0, .int .i64 0, .bool false, .bool false, .int .i64 0, .int .i64 0, .string { data := #[] }, .int .i64 0, .int .i64 0, .string { data := #[] }, .string { data := #[] }, .string { data := #[] }, .int .i64 0, .int .i64 0, .string { data := #[] }, .string { data := #[] }, .bool false] 38)) = W at hB k1 k2 ⊢
  have HB := Lib.hid hB
  have K1 := Lib.hid k1
  have K2 := Lib.hid k2
  clear hB k1 k2 hbx
  have hg1 := HB.out.size
  have k21 : W.cell? ⟨w.heap.size, 21, none⟩ = some (.bool true) := by rw [K1.out.cell, P.c21, hi]
  have k20 : W.cell? ⟨w.heap.size, 20, none⟩ = some (.string (bs P.got)) := by rw [K1.out.cell, P.c20]
  have k18 : W.cell? ⟨w.heap.size, 18, none⟩ = some (.int .i64 (P.p.n : Int)) := by rw [K1.out.cell, P.c18]
  have hsz := bs_size P.got
  have hne : ((P.got.length : Int) != (P.got.length : Int)) = false := by simp
  have hss := bs_size s
  have hemp := bs_isnil s
  subst h0
  have hemp : (bs []).toList.isEmpty = true := by rw [hemp]; rfl
  have hss : (bs []).size = 0 := hss
  go_wp2_with (first
    | (refine wpList_load_row rfl 38 (.tmp 3) rfl w.heap.size rfl 38 P.V (0, 0) _ K1.out Tryz.underlying38 rfl P.i ?_)
    | (refine wpList_store_row rfl 38 (.tmp 6) (.tmp 54) rfl (w.heap.size + 1) P.V rfl rfl 38 zero22 K2.out P.i (by rw [P.n]; rfl) P.o ?_)
    | fail)
  refine bodyPost_ret (results_ct (p := 6) (u := 7) (ty := 38) (by kernel_rfl) _ _ (w.heap.size + 1) 38 P.V _ rfl (K2.out.row P.V) Tryz.underlying38 rfl P.i) rfl ?_
  exact ⟨rfl, below_setRow HB.out (by omega) _⟩
theorem pchk_b1 (P : Pl) (hg : P.got.length < 4294967296) (hn : P.p.n < 4294967296) (hi : P.is = true) (s : List UInt8) (hs : s.length < 1000000) (h0 : ¬ s = []) (h1 : P.p.n < P.got.length + s.length) (w : World) : Calls Tryz.prog 34 #[.agg P.V, .int .i64 (P.got.length : Int), .string (bs s)] w fun e w' => e = .returned (.tuple #[.agg P.V, .int .i64 222]) ∧ Below w.heap.size w w' := by
  have hbx := Lib.hid (box2 w P.V)
  go_enter Tryz.func34, Tryz.ntmps34
  go_upto_region 1 with fail
  obtain ⟨hB, k1, k2⟩ := hbx.out
  generalize ((w.alloc (.cells P.V 38)).alloc (.cells #[.int .i64 0, .int .i64 0, .bool false, .int .i64 0, .int .i64 0, .int .i64 0, .int .i64 0, .bool false, .bool false, .int .i64 0, .int .i64 0, .string { data := #[] }, .int .i64 0, .int .i64 0, .string { data := #[] }, .string { data := #[] }, .string { data := #[] }, .int .i64 0, .int .i64 0, .string { data := #[] }, .string { data := #[] }, .bool false] 38)) = W at hB k1 k2 ⊢
  have HB := Lib.hid hB
  have K1 := Lib.hid k1
  have K2 := Lib.hid k2
  clear hB k1 k2 hbx
  have hg1 := HB.out.size
  have k21 : W.cell? ⟨w.heap.size, 21, none⟩ = some (.bool true) := by rw [K1.out.cell, P.c21, hi]
  have k20 : W.cell? ⟨w.heap.size, 20, none⟩ = some (.string (bs P.got)) := by rw [K1.out.cell, P.c20]
  have k18 : W.cell? ⟨w.heap.size, 18, none⟩ = some (.int .i64 (P.p.n : Int)) := by rw [K1.out.cell, P.c18]
  have hsz := bs_size P.got
  have hne : ((P.got.length : Int) != (P.got.length : Int)) = false := by simp
  have hss := bs_size s
  have hemp := bs_isnil s
  rw [decide_eq_false h0] at hemp
  have e1 : decide ((P.p.n : Int) - (P.got.length : Int) < (s.length : Int)) = true := decide_eq_true (by omega)
  go_wp2_with (first
    | (refine wpList_load_row rfl 38 (.tmp 3) rfl w.heap.size rfl 38 P.V (0, 0) _ K1.out Tryz.underlying38 rfl P.i ?_)
    | (refine wpList_store_row rfl 38 (.tmp 6) (.tmp 54) rfl (w.heap.size + 1) P.V rfl rfl 38 zero22 K2.out P.i (by rw [P.n]; rfl) P.o ?_)
    | fail)
  refine bodyPost_ret (results_ct (p := 6) (u := 7) (ty := 38) (by kernel_rfl) _ _ (w.heap.size + 1) 38 P.V _ rfl (K2.out.row P.V) Tryz.underlying38 rfl P.i) rfl ?_
  exact ⟨rfl, below_setRow HB.out (by omega) _⟩
theorem pchk_b2 (P : Pl) (hg : P.got.length < 4294967296) (hn : P.p.n < 4294967296) (hi : P.is = true) (s : List UInt8) (hs : s.length < 1000000) (h0 : ¬ s = []) (h1 : ¬ P.p.n < P.got.length + s.length) (h2 : 256 < s.length) (w : World) : Calls Tryz.prog 34 #[.agg P.V, .int .i64 (P.got.length : Int), .string (bs s)] w fun e w' => e = .returned (.tuple #[.agg P.V, .int .i64 222]) ∧ Below w.heap.size w w' := by
  have hbx := Lib.hid (box2 w P.V)
  go_enter Tryz.func34, Tryz.ntmps34
  go_upto_region 1 with fail
  obtain ⟨hB, k1, k2⟩ := hbx.out
  generalize ((w.alloc (.cells P.V 38)).alloc (.cells #[.int .i64 0, .int .i64 0, .bool false, .int .i64 0, .int .i64 0, .int .i64 0, .int .i64 0, .bool false, .bool false, .int .i64 0, .int .i64 0, .string { data := #[] }, .int .i64 0, .int .i64 0, .string { data := #[] }, .string { data := #[] }, .string { data := #[] }, .int .i64 0, .int .i64 0, .string { data := #[] }, .string { data := #[] }, .bool false] 38)) = W at hB k1 k2 ⊢
  have HB := Lib.hid hB
  have K1 := Lib.hid k1
  have K2 := Lib.hid k2
  clear hB k1 k2 hbx
  have hg1 := HB.out.size
  have k21 : W.cell? ⟨w.heap.size, 21, none⟩ = some (.bool true) := by rw [K1.out.cell, P.c21, hi]
  have k20 : W.cell? ⟨w.heap.size, 20, none⟩ = some (.string (bs P.got)) := by rw [K1.out.cell, P.c20]
  have k18 : W.cell? ⟨w.heap.size, 18, none⟩ = some (.int .i64 (P.p.n : Int)) := by rw [K1.out.cell, P.c18]
  have hsz := bs_size P.got
  have hne : ((P.got.length : Int) != (P.got.length : Int)) = false := by simp
  have hss := bs_size s
  have hemp := bs_isnil s
  rw [decide_eq_false h0] at hemp
  have e1 : decide ((P.p.n : Int) - (P.got.length : Int) < (s.length : Int)) = false := decide_eq_false (by omega)
  have e2 : decide ((256 : Int) < (s.length : Int)) = true := decide_eq_true (by omega)
  go_wp2_with (first
    | (refine wpList_load_row rfl 38 (.tmp 3) rfl w.heap.size rfl 38 P.V (0, 0) _ K1.out Tryz.underlying38 rfl P.i ?_)
    | (refine wpList_store_row rfl 38 (.tmp 6) (.tmp 54) rfl (w.heap.size + 1) P.V rfl rfl 38 zero22 K2.out P.i (by rw [P.n]; rfl) P.o ?_)
    | fail)
  refine bodyPost_ret (results_ct (p := 6) (u := 7) (ty := 38) (by kernel_rfl) _ _ (w.heap.size + 1) 38 P.V _ rfl (K2.out.row P.V) Tryz.underlying38 rfl P.i) rfl ?_
  exact ⟨rfl, below_setRow HB.out (by omega) _⟩
theorem pchk_b3 (P : Pl) (hg : P.got.length < 4294967296) (hn : P.p.n < 4294967296) (hi : P.is = true) (s : List UInt8) (hs : s.length < 1000000) (h0 : ¬ s = []) (h1 : ¬ P.p.n < P.got.length + s.length) (h2 : ¬ 256 < s.length) (h3 : s.length % 64 ≠ 0) (h4 : P.got.length + s.length ≠ P.p.n) (w : World) : Calls Tryz.prog 34 #[.agg P.V, .int .i64 (P.got.length : Int), .string (bs s)] w fun e w' => e = .returned (.tuple #[.agg P.V, .int .i64 222]) ∧ Below w.heap.size w w' := by
  have hbx := Lib.hid (box2 w P.V)
  go_enter Tryz.func34, Tryz.ntmps34
  go_upto_region 1 with fail
  obtain ⟨hB, k1, k2⟩ := hbx.out
  generalize ((w.alloc (.cells P.V 38)).alloc (.cells #[.int .i64 0, .int .i64 0, .bool false, .int .i64 0, .int .i64 0, .int .i64 0, .int .i64 0, .bool false, .bool false, .int .i64 0, .int .i64 0, .string { data := #[] }, .int .i64 0, .int .i64 0, .string { data := #[] }, .string { data := #[] }, .string { data := #[] }, .int .i64 0, .int .i64 0, .string { data := #[] }, .string { data := #[] }, .bool false] 38)) = W at hB k1 k2 ⊢
  have HB := Lib.hid hB
  have K1 := Lib.hid k1
  have K2 := Lib.hid k2
  clear hB k1 k2 hbx
  have hg1 := HB.out.size
  have k21 : W.cell? ⟨w.heap.size, 21, none⟩ = some (.bool true) := by rw [K1.out.cell, P.c21, hi]
  have k20 : W.cell? ⟨w.heap.size, 20, none⟩ = some (.string (bs P.got)) := by rw [K1.out.cell, P.c20]
  have k18 : W.cell? ⟨w.heap.size, 18, none⟩ = some (.int .i64 (P.p.n : Int)) := by rw [K1.out.cell, P.c18]
  have hsz := bs_size P.got
  have hne : ((P.got.length : Int) != (P.got.length : Int)) = false := by simp
  have hss := bs_size s
  have hemp := bs_isnil s
  rw [decide_eq_false h0] at hemp
  have e1 : decide ((P.p.n : Int) - (P.got.length : Int) < (s.length : Int)) = false := decide_eq_false (by omega)
  have e2 : decide ((256 : Int) < (s.length : Int)) = false := decide_eq_false (by omega)
  have e3 : ((s.length : Int) % 64 != 0) = true := by rw [bne_iff_ne]; omega
  have e4 : ((s.length : Int) != (P.p.n : Int) - (P.got.length : Int)) = true := by rw [bne_iff_ne]; omega
  go_wp2_with (first
    | (refine wpList_load_row rfl 38 (.tmp 3) rfl w.heap.size rfl 38 P.V (0, 0) _ K1.out Tryz.underlying38 rfl P.i ?_)
    | (refine wpList_store_row rfl 38 (.tmp 6) (.tmp 54) rfl (w.heap.size + 1) P.V rfl rfl 38 zero22 K2.out P.i (by rw [P.n]; rfl) P.o ?_)
    | fail)
  refine bodyPost_ret (results_ct (p := 6) (u := 7) (ty := 38) (by kernel_rfl) _ _ (w.heap.size + 1) 38 P.V _ rfl (K2.out.row P.V) Tryz.underlying38 rfl P.i) rfl ?_
  exact ⟨rfl, below_setRow HB.out (by omega) _⟩
theorem pchk_ok (P : Pl) (hg : P.got.length < 4294967296) (hn : P.p.n < 4294967296) (hi : P.is = true) (k : Bool) (hs : P.b.ac = !k) (s : List UInt8) (hsl : s.length < 1000000) (h0 : ¬ s = []) (h1 : ¬ P.p.n < P.got.length + s.length) (h2 : ¬ 256 < s.length) (h3 : s.length % 64 = 0 ∨ P.got.length + s.length = P.p.n) (R : Pl) (hR : R = { P with got := P.got ++ s, im := setB P.im k (P.got ++ s) }) (w : World) : Calls Tryz.prog 34 #[.agg P.V, .int .i64 (P.got.length : Int), .string (bs s)] w fun e w' => e = .returned (.tuple #[.agg R.V, .int .i64 0]) ∧ Below w.heap.size w w' := by
  have hbx := Lib.hid (box2 w P.V)
  go_enter Tryz.func34, Tryz.ntmps34
  go_upto_region 1 with fail
  obtain ⟨hB, k1, k2⟩ := hbx.out
  generalize ((w.alloc (.cells P.V 38)).alloc (.cells #[.int .i64 0, .int .i64 0, .bool false, .int .i64 0, .int .i64 0, .int .i64 0, .int .i64 0, .bool false, .bool false, .int .i64 0, .int .i64 0, .string { data := #[] }, .int .i64 0, .int .i64 0, .string { data := #[] }, .string { data := #[] }, .string { data := #[] }, .int .i64 0, .int .i64 0, .string { data := #[] }, .string { data := #[] }, .bool false] 38)) = W at hB k1 k2 ⊢
  have HB := Lib.hid hB
  have K1 := Lib.hid k1
  have K2 := Lib.hid k2
  clear hB k1 k2 hbx
  have hg1 := HB.out.size
  have k21 : W.cell? ⟨w.heap.size, 21, none⟩ = some (.bool true) := by rw [K1.out.cell, P.c21, hi]
  have k20 : W.cell? ⟨w.heap.size, 20, none⟩ = some (.string (bs P.got)) := by rw [K1.out.cell, P.c20]
  have k18 : W.cell? ⟨w.heap.size, 18, none⟩ = some (.int .i64 (P.p.n : Int)) := by rw [K1.out.cell, P.c18]
  have hsz := bs_size P.got
  have hne : ((P.got.length : Int) != (P.got.length : Int)) = false := by simp
  have hss := bs_size s
  have hemp := bs_isnil s
  rw [decide_eq_false h0] at hemp
  have e1 : decide ((P.p.n : Int) - (P.got.length : Int) < (s.length : Int)) = false := decide_eq_false (by omega)
  have e2 : decide ((256 : Int) < (s.length : Int)) = false := decide_eq_false (by omega)
  have h3' : ((s.length : Int) % 64 != 0) = false ∨ (((s.length : Int) % 64 != 0) = true ∧ ((s.length : Int) != (P.p.n : Int) - (P.got.length : Int)) = false) := by
    by_cases h4 : s.length % 64 = 0
    · exact .inl (by rw [bne_eq_false_iff_eq]; omega)
    · exact .inr ⟨by rw [bne_iff_ne]; omega, by rw [bne_eq_false_iff_eq]; omega⟩
  obtain ⟨P1, hP1⟩ : ∃ P1 : Pl, P1 = { P with got := P.got ++ s } := ⟨_, rfl⟩
  obtain ⟨P2, hP2⟩ : ∃ P2 : Pl, P2 = { P1 with im := setB P1.im k (P.got ++ s) } := ⟨_, rfl⟩
  have E1 : P.V.setIfInBounds 20 (.string (bs P.got ++ bs s)) = P1.V := by rw [hP1, bs_app]; exact P.set_got _
  have E2 : P1.V.setIfInBounds (15 + sI k) (.string (bs P.got ++ bs s)) = P2.V := by rw [hP2, bs_app]; exact P1.set_i k _
  have hb1 : P1.b = P.b := by rw [hP1]
  have HG1 := Lib.hid (show P1.got = P.got ++ s from by rw [hP1])
  have hac : bAc P1.b = (if k then 0 else 1) := by unfold bAc; rw [hb1, hs]; cases k <;> rfl
  have HP := Lib.hid (show P2 = R from by rw [hP2, hP1, hR])
  have f20 := K1.out.free 20
  have L1 := K1.out.set 20 (.string (bs P.got ++ bs s))
  rw [E1] at L1
  have M1 := K2.out.far (p := ⟨w.heap.size, 20, none⟩) (by show w.heap.size + 1 ≠ w.heap.size; omega) (.string (bs P.got ++ bs s))
  have B1 := HB.out.setCell (p := ⟨w.heap.size, 20, none⟩) (Nat.le_refl _) (.string (bs P.got ++ bs s))
  have HL1 := Lib.hid L1
  have HM1 := Lib.hid M1
  have HB1 := Lib.hid B1
  have Hac := Lib.hid hac
  have HE2 := Lib.hid E2
  clear L1 M1 B1 E1 hP1 hP2 hR hb1 hac h1 h2 h3 hs hi E2
  rcases h3' with e3 | ⟨e3, e4⟩
  all_goals
    go_upto_region 9 with fail
    generalize (W.setCell ⟨w.heap.size, 20, none⟩ (.string (bs P.got ++ bs s))) = W9 at HL1 HM1 HB1 ⊢
    have k1 : W9.cell? ⟨w.heap.size, 1, none⟩ = some (.int .i64 (bAc P1.b)) := by rw [HL1.out.cell, P1.c1]
    rw [Hac.out] at k1
    have kI := HL1.out.cell (15 + sI k)
    rw [P1.ci] at kI
    have fI := HL1.out.free (15 + sI k)
    have L2 := HL1.out.set (15 + sI k) (.string (bs P.got ++ bs s))
    rw [HE2.out] at L2
    have M2 := HM1.out.far (p := ⟨w.heap.size, 15 + sI k, none⟩) (by show w.heap.size + 1 ≠ w.heap.size; omega) (.string (bs P.got ++ bs s))
    have B2 := HB1.out.setCell (p := ⟨w.heap.size, 15 + sI k, none⟩) (Nat.le_refl _) (.string (bs P.got ++ bs s))
    have k20 : W9.cell? ⟨w.heap.size, 20, none⟩ = some (.string (bs P.got ++ bs s)) := by rw [HL1.out.cell, P1.c20, bs_app, HG1.out]
    have HL2 := Lib.hid L2
    have HM2 := Lib.hid M2
    have HB2 := Lib.hid B2
    clear L2 M2 B2 HL1 HM1 HB1 HE2 Hac
    cases k
    all_goals
      have k1' := k1
      have kI' := kI
      have fI' := fI
      clear k1 kI fI
      simp only [sI, if_true, Bool.false_eq_true, if_false, Nat.reduceAdd] at k1' kI' fI' HL2 HM2 HB2
      go_wp2_with (first
        | (refine wpList_load_row rfl 38 (.tmp 3) rfl w.heap.size rfl 38 P2.V (0, 0) _ HL2.out Tryz.underlying38 rfl P2.i ?_)
        | (refine wpList_store_row rfl 38 (.tmp 6) (.tmp 68) rfl (w.heap.size + 1) P2.V rfl rfl 38 zero22 HM2.out P2.i (by rw [P2.n]; rfl) P2.o ?_)
        | fail)
      refine bodyPost_ret (results_ct (p := 6) (u := 7) (ty := 38) (by kernel_rfl) _ _ (w.heap.size + 1) 38 P2.V _ rfl (HM2.out.row P2.V) Tryz.underlying38 rfl P2.i) rfl ?_
      exact ⟨by rw [HP.out]; rfl, below_setRow HB2.out (by omega) _⟩
theorem pchk_any (P : Pl) (hg : P.got.length < 4294967296) (hn : P.p.n < 4294967296) (t : Int) (s : List UInt8) (hs : s.length < 1000000) (w : World) : Calls Tryz.prog 34 #[.agg P.V, .int .i64 t, .string (bs s)] w fun e w' => e = .returned (.tuple #[.agg (P.chunk t s).2.V, .int .i64 (P.chunk t s).1]) ∧ Below w.heap.size w w' := by
  unfold Pl.chunk
  by_cases h1 : P.is = false
  · rw [if_pos h1]
    exact pchk_idle P hg hn h1 t s w
  · rw [if_neg h1]
    have h1 : P.is = true := by simpa using h1
    by_cases h2 : t ≠ (P.got.length : Int)
    · rw [if_pos h2]
      exact pchk_off P hg hn h1 t h2 s w
    · rw [if_neg h2]
      obtain rfl : t = (P.got.length : Int) := Classical.not_not.1 h2
      by_cases a0 : s = []
      · rw [if_pos (.inl a0)]
        exact pchk_b0 P hg hn h1 s hs a0 w
      · by_cases a1 : P.p.n < P.got.length + s.length
        · rw [if_pos (.inr (.inl a1))]
          exact pchk_b1 P hg hn h1 s hs a0 a1 w
        · by_cases a2 : 256 < s.length
          · rw [if_pos (.inr (.inr (.inl a2)))]
            exact pchk_b2 P hg hn h1 s hs a0 a1 a2 w
          · by_cases a3 : s.length % 64 ≠ 0 ∧ P.got.length + s.length ≠ P.p.n
            · rw [if_pos (.inr (.inr (.inr a3)))]
              exact pchk_b3 P hg hn h1 s hs a0 a1 a2 a3.1 a3.2 w
            · rw [if_neg (fun k => k.elim a0 (fun k => k.elim a1 (fun k => k.elim a2 a3)))]
              exact pchk_ok P hg hn h1 (!P.b.ac) (by simp) s hs a0 a1 a2 (by omega) _ rfl w
end Go.Proofs.YticnmogeknlmeaaGreatDoor.B
