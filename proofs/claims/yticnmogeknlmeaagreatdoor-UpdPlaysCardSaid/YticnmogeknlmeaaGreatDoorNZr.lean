/- Helper: into a plain picture is installed; walked. No condition. -/
import Derived.Test.YticnmogeknlmeaaGreatDoorNZq
import Derived.Test.YticnmogeknlmeaaGreatDoorN13
namespace Go.Proofs.YticnmogeknlmeaaGreatDoor.B
open Go.RowKit Go.Maps Go.Proofs.YticnmogeknlmeaaGreatDoorW.PrintWords Go.Proofs.YticnmogeknlmeaaGreatDoor.Later
set_option maxRecDepth 100000
set_option maxHeartbeats 4000000
def Pl.install (P : Pl) (l : List UInt8) : Int × Pl := match parseL l with
  | none => (200, P)
  | some m => if 64 * P.pg < m.n then (222, P) else match P.b.inst m.v with
    | .error e => (e, P)
    | .ok b => (0, { P with im := setB P.im (!P.b.ac) [], b := b, p := m, got := [], is := true })
theorem pins_none (P : Pl) (l : List UInt8) (hl : l.length < 4294967281) (hp : parseL l = none) (w : World) : Calls Tryz.prog 33 #[.agg P.V, .string (bs l)] w fun e w' => e = .returned (.tuple #[.agg P.V, .int .i64 200]) ∧ Below w.heap.size w w' := by
  have hparse := fun W => refParse_any l hl W
  rw [hp] at hparse
  have Hp := Lib.hid (fun W => (show Calls Tryz.prog 62 #[.string (bs l)] W fun e w' => (∃ k : Nat, 1 ≤ k ∧ e = .returned (.tuple #[.agg #[.int .i64 0, .int .i64 0, .string { data := #[] }], .int .i64 (k : Int)])) ∧ Below W.heap.size W w' from hparse W))
  clear hparse hp
  have hbx := Lib.hid (box2 w P.V)
  go_enter Tryz.func33, Tryz.ntmps33
  go_upto_region 1 with fail
  obtain ⟨hB, k1, k2⟩ := hbx.out
  generalize ((w.alloc (.cells P.V 38)).alloc (.cells #[.int .i64 0, .int .i64 0, .bool false, .int .i64 0, .int .i64 0, .int .i64 0, .int .i64 0, .bool false, .bool false, .int .i64 0, .int .i64 0, .string { data := #[] }, .int .i64 0, .int .i64 0, .string { data := #[] }, .string { data := #[] }, .string { data := #[] }, .int .i64 0, .int .i64 0, .string { data := #[] }, .string { data := #[] }, .bool false] 38)) = W at hB k1 k2 ⊢
  have HB := Lib.hid hB
  have K1 := Lib.hid k1
  have K2 := Lib.hid k2
  clear hB k1 k2 hbx
  have hg1 := HB.out.size
  go_wp2_with fail
  refine (Hp.out _).mono ?_
  rintro _ w3 ⟨⟨k, hk, rfl⟩, hB⟩
  have hba : Below w3.heap.size w3 (w3.alloc (.cells #[.int .i64 0, .int .i64 0, .string { data := #[] }] 34)) := (Below.refl _ _).alloc (Nat.le_refl _) _
  have hB2 := hB.trans (hba.mono hB.size)
  have HB4 := Lib.hid (HB.out.trans (hB2.mono hg1))
  have K14 := Lib.hid (K1.out.below hB2)
  have K24 := Lib.hid (K2.out.below hB2)
  have hk0 : ((k : Int) != 0) = true := by rw [bne_iff_ne]; omega
  clear hB hba hB2 hk
  go_wp2_with (first
    | (refine wpList_load_row rfl 38 (.tmp 2) rfl w.heap.size rfl 38 P.V (0, 0) _ K14.out Tryz.underlying38 rfl P.i ?_)
    | (refine wpList_store_row rfl 38 (.tmp 4) (.tmp 17) rfl (w.heap.size + 1) P.V rfl rfl 38 zero22 K24.out P.i (by rw [P.n]; rfl) P.o ?_)
    | fail)
  refine bodyPost_ret (results_ct (p := 4) (u := 5) (ty := 38) (by kernel_rfl) _ _ (w.heap.size + 1) 38 P.V _ rfl (K24.out.row P.V) Tryz.underlying38 rfl P.i) rfl ?_
  exact ⟨rfl, below_setRow HB4.out (by omega) _⟩
theorem pins_long (P : Pl) (hpg : P.pg ≤ 1024) (l : List UInt8) (hl : l.length < 4294967281) (m : Man) (hp : parseL l = some m) (hlong : 64 * P.pg < m.n) (w : World) : Calls Tryz.prog 33 #[.agg P.V, .string (bs l)] w fun e w' => e = .returned (.tuple #[.agg P.V, .int .i64 222]) ∧ Below w.heap.size w w' := by
  have hparse := fun W => refParse_any l hl W
  rw [hp] at hparse
  have Hp := Lib.hid (fun W => (show Calls Tryz.prog 62 #[.string (bs l)] W fun e w' => e = .returned (.tuple #[.agg #[.int .i64 (m.v : Int), .int .i64 (m.n : Int), .string (bs m.d)], .int .i64 0]) ∧ Below W.heap.size W w' from hparse W))
  clear hparse hp
  have hbx := Lib.hid (box2 w P.V)
  go_enter Tryz.func33, Tryz.ntmps33
  go_upto_region 1 with fail
  obtain ⟨hB, k1, k2⟩ := hbx.out
  generalize ((w.alloc (.cells P.V 38)).alloc (.cells #[.int .i64 0, .int .i64 0, .bool false, .int .i64 0, .int .i64 0, .int .i64 0, .int .i64 0, .bool false, .bool false, .int .i64 0, .int .i64 0, .string { data := #[] }, .int .i64 0, .int .i64 0, .string { data := #[] }, .string { data := #[] }, .string { data := #[] }, .int .i64 0, .int .i64 0, .string { data := #[] }, .string { data := #[] }, .bool false] 38)) = W at hB k1 k2 ⊢
  have HB := Lib.hid hB
  have K1 := Lib.hid k1
  have K2 := Lib.hid k2
  clear hB k1 k2 hbx
  have hg1 := HB.out.size
  go_wp2_with fail
  refine (Hp.out _).mono ?_
  rintro _ w3 ⟨rfl, hB⟩
  have hba : Below w3.heap.size w3 (w3.alloc (.cells #[.int .i64 (m.v : Int), .int .i64 (m.n : Int), .string (bs m.d)] 34)) := (Below.refl _ _).alloc (Nat.le_refl _) _
  have hB2 := hB.trans (hba.mono hB.size)
  have HB4 := Lib.hid (HB.out.trans (hB2.mono hg1))
  have K14 := Lib.hid (K1.out.below hB2)
  have K24 := Lib.hid (K2.out.below hB2)
  have K34 := Lib.hid (Blk.new w3 #[.int .i64 (m.v : Int), .int .i64 (m.n : Int), .string (bs m.d)] 34)
  have hg23 : w.heap.size + 1 < w3.heap.size := by have := K2.out.lt; have := hB.size; omega
  have k0 : (w3.alloc (.cells #[.int .i64 (m.v : Int), .int .i64 (m.n : Int), .string (bs m.d)] 34)).cell? ⟨w.heap.size, 0, none⟩ = some (.int .i64 (P.pg : Int)) := by rw [K14.out.cell, P.c0]
  clear hB hba hB2
  have hlt : (P.pg : Int) * 64 < (m.n : Int) := by omega
  go_wp2_with (first
    | (refine wpList_load_row rfl 38 (.tmp 2) rfl w.heap.size rfl 38 P.V (0, 0) _ K14.out Tryz.underlying38 rfl P.i ?_)
    | (refine wpList_store_row rfl 38 (.tmp 4) (.tmp 24) rfl (w.heap.size + 1) P.V rfl rfl 38 zero22 K24.out P.i (by rw [P.n]; rfl) P.o ?_)
    | fail)
  refine bodyPost_ret (results_ct (p := 4) (u := 5) (ty := 38) (by kernel_rfl) _ _ (w.heap.size + 1) 38 P.V _ rfl (K24.out.row P.V) Tryz.underlying38 rfl P.i) rfl ?_
  exact ⟨rfl, below_setRow HB4.out (by omega) _⟩
theorem pins_err (P : Pl) (hb : P.b.Ok) (hpg : P.pg ≤ 1024) (l : List UInt8) (hl : l.length < 4294967281) (m : Man) (hp : parseL l = some m) (hlong : ¬ 64 * P.pg < m.n) (e : Int) (he : e ≠ 0) (hr : P.b.inst m.v = .error e) (w : World) : Calls Tryz.prog 33 #[.agg P.V, .string (bs l)] w fun r w' => r = .returned (.tuple #[.agg P.V, .int .i64 e]) ∧ Below w.heap.size w w' := by
  have hact := fun W => ract0_any P.b hb m.v W
  rw [hr] at hact
  have Hact := Lib.hid (fun W => (show Calls Tryz.prog 36 #[.agg P.b.V, .int .i64 0, .int .i64 (m.v : Int)] W fun r w' => r = .returned (.tuple #[.agg #[.int .i64 0, .bool false, .int .i64 0, .int .i64 0, .int .i64 0, .int .i64 0, .bool false, .bool false], .int .i64 e]) ∧ Below W.heap.size W w' from hact W))
  clear hact hr
  have hparse := fun W => refParse_any l hl W
  rw [hp] at hparse
  have Hp := Lib.hid (fun W => (show Calls Tryz.prog 62 #[.string (bs l)] W fun e w' => e = .returned (.tuple #[.agg #[.int .i64 (m.v : Int), .int .i64 (m.n : Int), .string (bs m.d)], .int .i64 0]) ∧ Below W.heap.size W w' from hparse W))
  clear hparse hp
  have hbx := Lib.hid (box2 w P.V)
  go_enter Tryz.func33, Tryz.ntmps33
  go_upto_region 1 with fail
  obtain ⟨hB, k1, k2⟩ := hbx.out
  generalize ((w.alloc (.cells P.V 38)).alloc (.cells #[.int .i64 0, .int .i64 0, .bool false, .int .i64 0, .int .i64 0, .int .i64 0, .int .i64 0, .bool false, .bool false, .int .i64 0, .int .i64 0, .string { data := #[] }, .int .i64 0, .int .i64 0, .string { data := #[] }, .string { data := #[] }, .string { data := #[] }, .int .i64 0, .int .i64 0, .string { data := #[] }, .string { data := #[] }, .bool false] 38)) = W at hB k1 k2 ⊢
  have HB := Lib.hid hB
  have K1 := Lib.hid k1
  have K2 := Lib.hid k2
  clear hB k1 k2 hbx
  have hg1 := HB.out.size
  go_wp2_with fail
  refine (Hp.out _).mono ?_
  rintro _ w3 ⟨rfl, hB⟩
  have hba : Below w3.heap.size w3 (w3.alloc (.cells #[.int .i64 (m.v : Int), .int .i64 (m.n : Int), .string (bs m.d)] 34)) := (Below.refl _ _).alloc (Nat.le_refl _) _
  have hB2 := hB.trans (hba.mono hB.size)
  have HB4 := Lib.hid (HB.out.trans (hB2.mono hg1))
  have K14 := Lib.hid (K1.out.below hB2)
  have K24 := Lib.hid (K2.out.below hB2)
  have K34 := Lib.hid (Blk.new w3 #[.int .i64 (m.v : Int), .int .i64 (m.n : Int), .string (bs m.d)] 34)
  have hg23 : w.heap.size + 1 < w3.heap.size := by have := K2.out.lt; have := hB.size; omega
  have k0 : (w3.alloc (.cells #[.int .i64 (m.v : Int), .int .i64 (m.n : Int), .string (bs m.d)] 34)).cell? ⟨w.heap.size, 0, none⟩ = some (.int .i64 (P.pg : Int)) := by rw [K14.out.cell, P.c0]
  clear hB hba hB2
  have hlt : ¬ (P.pg : Int) * 64 < (m.n : Int) := by omega
  go_wp2_with (first
    | (refine wpList_load_blk rfl 32 (.tmp 26) rfl w.heap.size 1 rfl P.V P.b.V 38 _ K14.out P.at_b Tryz.underlying32 rfl P.b.V_i ?_)
    | fail)
  refine (Hact.out _).mono ?_
  rintro _ w7 ⟨rfl, hB⟩
  have hba : Below w7.heap.size w7 (w7.alloc (.cells #[.int .i64 0, .bool false, .int .i64 0, .int .i64 0, .int .i64 0, .int .i64 0, .bool false, .bool false] 32)) := (Below.refl _ _).alloc (Nat.le_refl _) _
  have hB2 := hB.trans (hba.mono hB.size)
  have HB7 := Lib.hid (HB4.out.trans (hB2.mono HB4.out.size))
  have K17 := Lib.hid (K14.out.below hB2)
  have K27 := Lib.hid (K24.out.below hB2)
  clear hB hba hB2
  have hne0 : (e != 0) = true := by rw [bne_iff_ne]; exact he
  go_wp2_with (first
    | (refine wpList_load_row rfl 38 (.tmp 2) rfl w.heap.size rfl 38 P.V (0, 0) _ K17.out Tryz.underlying38 rfl P.i ?_)
    | (refine wpList_store_row rfl 38 (.tmp 4) (.tmp 35) rfl (w.heap.size + 1) P.V rfl rfl 38 zero22 K27.out P.i (by rw [P.n]; rfl) P.o ?_)
    | fail)
  refine bodyPost_ret (results_ct (p := 4) (u := 5) (ty := 38) (by kernel_rfl) _ _ (w.heap.size + 1) 38 P.V _ rfl (K27.out.row P.V) Tryz.underlying38 rfl P.i) rfl ?_
  exact ⟨rfl, below_setRow HB7.out (by omega) _⟩
theorem pins_ok (P : Pl) (hb : P.b.Ok) (s : Bool) (hs : P.b.ac = !s) (hpg : P.pg ≤ 1024) (l : List UInt8) (hl : l.length < 4294967281) (m : Man) (hp : parseL l = some m) (hlong : ¬ 64 * P.pg < m.n) (b : Bt) (hr : P.b.inst m.v = .ok b) (R : Pl) (hR : R = { P with im := setB P.im s [], b := b, p := m, got := [], is := true }) (w : World) :
    Calls Tryz.prog 33 #[.agg P.V, .string (bs l)] w fun r w' => r = .returned (.tuple #[.agg R.V, .int .i64 0]) ∧ Below w.heap.size w w' := by
  have hact := fun W => ract0_any P.b hb m.v W
  rw [hr] at hact
  have Hact := Lib.hid (fun W => (show Calls Tryz.prog 36 #[.agg P.b.V, .int .i64 0, .int .i64 (m.v : Int)] W fun r w' => r = .returned (.tuple #[.agg b.V, .int .i64 0]) ∧ Below W.heap.size W w' from hact W))
  clear hact hr
  have hparse := fun W => refParse_any l hl W
  rw [hp] at hparse
  have Hp := Lib.hid (fun W => (show Calls Tryz.prog 62 #[.string (bs l)] W fun e w' => e = .returned (.tuple #[.agg #[.int .i64 (m.v : Int), .int .i64 (m.n : Int), .string (bs m.d)], .int .i64 0]) ∧ Below W.heap.size W w' from hparse W))
  clear hparse hp
  have hbx := Lib.hid (box2 w P.V)
  go_enter Tryz.func33, Tryz.ntmps33
  go_upto_region 1 with fail
  obtain ⟨hB, k1, k2⟩ := hbx.out
  generalize ((w.alloc (.cells P.V 38)).alloc (.cells #[.int .i64 0, .int .i64 0, .bool false, .int .i64 0, .int .i64 0, .int .i64 0, .int .i64 0, .bool false, .bool false, .int .i64 0, .int .i64 0, .string { data := #[] }, .int .i64 0, .int .i64 0, .string { data := #[] }, .string { data := #[] }, .string { data := #[] }, .int .i64 0, .int .i64 0, .string { data := #[] }, .string { data := #[] }, .bool false] 38)) = W at hB k1 k2 ⊢
  have HB := Lib.hid hB
  have K1 := Lib.hid k1
  have K2 := Lib.hid k2
  clear hB k1 k2 hbx
  have hg1 := HB.out.size
  go_wp2_with fail
  refine (Hp.out _).mono ?_
  rintro _ w3 ⟨rfl, hB⟩
  have hba : Below w3.heap.size w3 (w3.alloc (.cells #[.int .i64 (m.v : Int), .int .i64 (m.n : Int), .string (bs m.d)] 34)) := (Below.refl _ _).alloc (Nat.le_refl _) _
  have hB2 := hB.trans (hba.mono hB.size)
  have HB4 := Lib.hid (HB.out.trans (hB2.mono hg1))
  have K14 := Lib.hid (K1.out.below hB2)
  have K24 := Lib.hid (K2.out.below hB2)
  have K34 := Lib.hid (Blk.new w3 #[.int .i64 (m.v : Int), .int .i64 (m.n : Int), .string (bs m.d)] 34)
  have hg23 : w.heap.size + 1 < w3.heap.size := by have := K2.out.lt; have := hB.size; omega
  have k0 : (w3.alloc (.cells #[.int .i64 (m.v : Int), .int .i64 (m.n : Int), .string (bs m.d)] 34)).cell? ⟨w.heap.size, 0, none⟩ = some (.int .i64 (P.pg : Int)) := by rw [K14.out.cell, P.c0]
  clear hB hba hB2
  have hlt : ¬ (P.pg : Int) * 64 < (m.n : Int) := by omega
  go_wp2_with (first
    | (refine wpList_load_blk rfl 32 (.tmp 26) rfl w.heap.size 1 rfl P.V P.b.V 38 _ K14.out P.at_b Tryz.underlying32 rfl P.b.V_i ?_)
    | fail)
  refine (Hact.out _).mono ?_
  rintro _ w7 ⟨rfl, hB⟩
  have hba : Below w7.heap.size w7 (w7.alloc (.cells #[.int .i64 0, .bool false, .int .i64 0, .int .i64 0, .int .i64 0, .int .i64 0, .bool false, .bool false] 32)) := (Below.refl _ _).alloc (Nat.le_refl _) _
  have K47 := Lib.hid (Blk.new w7 #[.int .i64 0, .bool false, .int .i64 0, .int .i64 0, .int .i64 0, .int .i64 0, .bool false, .bool false] 32)
  have hs7 := (HB4.out.trans (hB.mono HB4.out.size)).size
  have hw78 := hB.size
  have h34 := K34.out.lt
  have h24 := K24.out.lt
  have HB7 := Lib.hid (below_setRow ((HB4.out.trans (hB.mono HB4.out.size)).trans (hba.mono hs7)) hs7 b.V)
  have K17 := Lib.hid (((K14.out.below hB).below hba).rowFar (g := w7.heap.size) (by have := K14.out.lt; omega) b.V)
  have K27 := Lib.hid (((K24.out.below hB).below hba).rowFar (g := w7.heap.size) (by omega) b.V)
  have K37 := Lib.hid (((K34.out.below hB).below hba).rowFar (g := w7.heap.size) (by omega) b.V)
  have K48 := Lib.hid (K47.out.row b.V)
  have hg2 : w.heap.size + 1 < w3.heap.size := hg23
  have hg3 : w3.heap.size < w7.heap.size := by omega
  clear hB hba
  go_upto_region 9 with (first
    | (refine wpList_store_row rfl 32 (.tmp 8) (.tmp 31) rfl w7.heap.size b.V rfl rfl 32 _ K47.out b.V_i (by rw [b.V_size]; rfl) b.V_o ?_)
    | fail)
  clear K47
  generalize ((w7.alloc (.cells #[.int .i64 0, .bool false, .int .i64 0, .int .i64 0, .int .i64 0, .int .i64 0, .bool false, .bool false] 32)).setRow w7.heap.size b.V) = W8 at HB7 K17 K27 K37 K48 ⊢
  have k1 : W8.cell? ⟨w.heap.size, 1, none⟩ = some (.int .i64 (bAc P.b)) := by rw [K17.out.cell, P.c1]
  obtain ⟨P1, hP1⟩ : ∃ P1 : Pl, P1 = { P with im := setB P.im s [] } := ⟨_, rfl⟩
  have e1 : P.V.setIfInBounds (15 + sI s) (.string (bs [])) = P1.V := by rw [hP1]; exact P.set_i s []
  have kI : W8.cell? ⟨w.heap.size, 15 + sI s, none⟩ = some (.string (bs (P.im s))) := by rw [K17.out.cell, P.ci]
  have fI : W8.frozen? ⟨w.heap.size, 15 + sI s, none⟩ = false := K17.out.free _
  have L1 := K17.out.set (15 + sI s) (.string (bs []))
  rw [e1] at L1
  have HL1 := Lib.hid L1
  have M1 := Lib.hid (K27.out.far (p := ⟨w.heap.size, 15 + sI s, none⟩) (by show w.heap.size + 1 ≠ w.heap.size; omega) (.string (bs [])))
  have N1 := Lib.hid (K37.out.far (p := ⟨w.heap.size, 15 + sI s, none⟩) (by show w3.heap.size ≠ w.heap.size; omega) (.string (bs [])))
  have O1 := Lib.hid (K48.out.far (p := ⟨w.heap.size, 15 + sI s, none⟩) (by show w7.heap.size ≠ w.heap.size; omega) (.string (bs [])))
  have HB8 := Lib.hid (HB7.out.setCell (p := ⟨w.heap.size, 15 + sI s, none⟩) (Nat.le_refl _) (.string (bs [])))
  have hac : bAc P.b = (if s then 0 else 1) := by unfold bAc; rw [hs]; cases s <;> rfl
  rw [hac] at k1
  have HP1 := Lib.hid hP1
  have HR := Lib.hid hR
  clear hac hP1 hR e1 L1 hb hs hlt hlong k0
  cases s
  · have k1' := k1
    clear k1
    simp only [if_true, Bool.false_eq_true, if_false] at k1'
    have kI' := kI
    have fI' := fI
    clear kI fI
    simp only [sI, if_true, Bool.false_eq_true, if_false, Nat.reduceAdd] at kI' fI' HL1 M1 N1 O1 HB8
    go_upto_region 10 with fail
    have L2 : Blk (W8.setCell ⟨w.heap.size, 15, none⟩ (.string { data := #[] })) w.heap.size P1.V 38 := HL1.out
    have M2 : Blk (W8.setCell ⟨w.heap.size, 15, none⟩ (.string { data := #[] })) (w.heap.size + 1) zero22 38 := M1.out
    have N2 : Blk (W8.setCell ⟨w.heap.size, 15, none⟩ (.string { data := #[] })) w3.heap.size (manC m).toArray 34 := N1.out
    have O2 : Blk (W8.setCell ⟨w.heap.size, 15, none⟩ (.string { data := #[] })) w7.heap.size b.V 32 := O1.out
    have B2 : Below w.heap.size w (W8.setCell ⟨w.heap.size, 15, none⟩ (.string { data := #[] })) := HB8.out
    clear HL1 M1 N1 O1 HB8 kI' fI' k1' HB7 K17 K27 K37 K48
    generalize (W8.setCell ⟨w.heap.size, 15, none⟩ (.string { data := #[] })) = W9 at L2 M2 N2 O2 B2 ⊢
    have HL2 := Lib.hid (show Blk W9.drew w.heap.size P1.V 38 from L2)
    have HM2 := Lib.hid (show Blk W9.drew (w.heap.size + 1) zero22 38 from M2)
    have HN2 := Lib.hid N2
    have HO2 := Lib.hid O2
    have HB9 := Lib.hid (show Below w.heap.size w W9.drew from below_drewN B2 1)
    clear L2 M2 N2 O2 B2
    obtain ⟨P2, hP2⟩ : ∃ P2 : Pl, P2 = { P1 with b := b } := ⟨_, rfl⟩
    obtain ⟨P3, hP3⟩ : ∃ P3 : Pl, P3 = { P2 with p := m } := ⟨_, rfl⟩
    obtain ⟨P4, hP4⟩ : ∃ P4 : Pl, P4 = { P3 with got := [] } := ⟨_, rfl⟩
    obtain ⟨P5, hP5⟩ : ∃ P5 : Pl, P5 = { P4 with is := true } := ⟨_, rfl⟩
    have e2 : overA P1.V 1 b.V.toList = P2.V := by rw [hP2]; exact P1.set_b b
    have e3 : overA P2.V 17 (manC m).toArray.toList = P3.V := by rw [hP3]; exact P2.set_p m
    have e4 : P3.V.setIfInBounds 20 (.string { data := #[] }) = P4.V := by rw [hP4]; exact P3.set_got []
    have e5 : P4.V.setIfInBounds 21 (.bool true) = P5.V := by rw [hP5]; exact P4.set_is true
    have HP := Lib.hid (show P5 = R from by rw [hP5, hP4, hP3, hP2, HP1.out, HR.out])
    have h37 : w3.heap.size ≠ w.heap.size := by omega
    have h77 : w7.heap.size ≠ w.heap.size := by omega
    have h27 : w.heap.size + 1 ≠ w.heap.size := by omega
    refine wp_region_held_drew (S := fun W => Blk W w7.heap.size b.V 32 ∧ Blk W w3.heap.size (manC m).toArray 34) (by kernel_rfl) ⟨HO2.out, HN2.out⟩ (fun hHeld => ?_)
    refine wpAnyH_take (i := 0) (v := .agg b.V) rfl (by kernel_rfl) (by kernel_rfl) (by kernel_rfl) (fun _ _ _ h => h) (yieldsIf_load_mid rfl 32 (.tmp 8) rfl w7.heap.size 0 rfl b.V.toList _ (fun W h => h.1.range) Tryz.underlying32 rfl (by rw [Array.length_toList]; exact b.V_i)) hHeld ?_
    refine wpAnyH_take (i := 1) (v := .agg (manC m).toArray) rfl (by kernel_rfl) (by kernel_rfl) (by kernel_rfl) (fun _ _ _ h => h) (yieldsIf_load_mid rfl 34 (.tmp 6) rfl w3.heap.size 0 rfl (manC m).toArray.toList _ (fun W h => h.2.range) Tryz.underlying34 rfl (by rw [Array.length_toList]; exact manC_i m)) hHeld ?_
    refine wpAnyH_ready (rs := [2]) (by kernel_rfl) (by decide) (AllReadyH.cons rfl (fun K' hK => ?_) AllReadyH.nil)
    rw [if_pos (by rfl)]
    unfold Oper.wp execOp
    simp [go_sem]
    refine hK.out _ _ hHeld (fun hHeld => ?_)
    clear hK
    refine wpAnyH_ready (rs := [3]) (by kernel_rfl) (by decide) (AllReadyH.cons rfl (fun K' hK => ?_) AllReadyH.nil)
    rw [if_pos (by rfl)]
    refine wp_store_blk 32 (.tmp 45) (.tmp 43) rfl w.heap.size 1 b.V rfl rfl 38 P1.V HL2.out b.V_i (by rw [Pl.n]; first | (rw [Bt.V_size]; omega) | (show 17 + 3 ≤ 22; omega)) b.V_o ?_
    rw [e2]
    have hHeld1 := And.intro (hHeld.1.rowFar h77 P2.V) (hHeld.2.rowFar h37 P2.V)
    have HL3 := Lib.hid (HL2.out.row P2.V)
    have HM3 := Lib.hid (HM2.out.rowFar h27 P2.V)
    have HB10 := Lib.hid (below_setRow HB9.out (Nat.le_refl _) P2.V)
    clear HL2 HM2 HB9 hHeld
    have HL2 := HL3
    have HM2 := HM3
    have HB9 := HB10
    clear HL3 HM3 HB10
    refine hK.out _ _ hHeld1 (fun hHeld => ?_)
    clear hK hHeld1
    refine wpAnyH_ready (rs := [4]) (by kernel_rfl) (by decide) (AllReadyH.cons rfl (fun K' hK => ?_) AllReadyH.nil)
    rw [if_pos (by rfl)]
    unfold Oper.wp execOp
    simp [go_sem]
    refine hK.out _ _ hHeld (fun hHeld => ?_)
    clear hK
    refine wpAnyH_ready (rs := [5]) (by kernel_rfl) (by decide) (AllReadyH.cons rfl (fun K' hK => ?_) AllReadyH.nil)
    rw [if_pos (by rfl)]
    refine wp_store_blk 34 (.tmp 46) (.tmp 44) rfl w.heap.size 17 (manC m).toArray rfl rfl 38 P2.V HL2.out (manC_i m) (by rw [Pl.n]; first | (rw [Bt.V_size]; omega) | (show 17 + 3 ≤ 22; omega)) (manC_o m) ?_
    rw [e3]
    have hHeld1 := And.intro (hHeld.1.rowFar h77 P3.V) (hHeld.2.rowFar h37 P3.V)
    have HL3 := Lib.hid (HL2.out.row P3.V)
    have HM3 := Lib.hid (HM2.out.rowFar h27 P3.V)
    have HB10 := Lib.hid (below_setRow HB9.out (Nat.le_refl _) P3.V)
    clear HL2 HM2 HB9 hHeld
    have HL2 := HL3
    have HM2 := HM3
    have HB9 := HB10
    clear HL3 HM3 HB10
    refine hK.out _ _ hHeld1 (fun hHeld => ?_)
    clear hK hHeld1
    refine wpAnyH_ready (rs := [6]) (by kernel_rfl) (by decide) (AllReadyH.cons rfl (fun K' hK => ?_) AllReadyH.nil)
    rw [if_pos (by rfl)]
    unfold Oper.wp execOp
    simp [go_sem]
    refine hK.out _ _ hHeld (fun hHeld => ?_)
    clear hK
    refine wpAnyH_ready (rs := [7]) (by kernel_rfl) (by decide) (AllReadyH.cons rfl (fun K' hK => ?_) AllReadyH.nil)
    rw [if_pos (by rfl)]
    have kc := HL2.out.cell 20
    rw [P3.c20] at kc
    have fc := HL2.out.free 20
    unfold Oper.wp execOp
    simp [go_sem, kc, fc]
    have hHeld1 := And.intro (hHeld.1.far (p := ⟨w.heap.size, 20, none⟩) h77 (.string { data := #[] })) (hHeld.2.far (p := ⟨w.heap.size, 20, none⟩) h37 (.string { data := #[] }))
    have L3 := HL2.out.set 20 (.string { data := #[] })
    rw [e4] at L3
    have HL3 := Lib.hid L3
    have HM3 := Lib.hid (HM2.out.far (p := ⟨w.heap.size, 20, none⟩) h27 (.string { data := #[] }))
    have HB10 := Lib.hid (HB9.out.setCell (p := ⟨w.heap.size, 20, none⟩) (Nat.le_refl _) (.string { data := #[] }))
    clear HL2 HM2 HB9 hHeld kc fc L3
    have HL2 := HL3
    have HM2 := HM3
    have HB9 := HB10
    clear HL3 HM3 HB10
    refine hK.out _ _ hHeld1 (fun hHeld => ?_)
    clear hK hHeld1
    refine wpAnyH_ready (rs := [8]) (by kernel_rfl) (by decide) (AllReadyH.cons rfl (fun K' hK => ?_) AllReadyH.nil)
    rw [if_pos (by rfl)]
    unfold Oper.wp execOp
    simp [go_sem]
    refine hK.out _ _ hHeld (fun hHeld => ?_)
    clear hK
    refine wpAnyH_ready (rs := [9]) (by kernel_rfl) (by decide) (AllReadyH.cons rfl (fun K' hK => ?_) AllReadyH.nil)
    rw [if_pos (by rfl)]
    have kc := HL2.out.cell 21
    rw [P4.c21] at kc
    have fc := HL2.out.free 21
    unfold Oper.wp execOp
    simp [go_sem, kc, fc]
    have hHeld1 := And.intro (hHeld.1.far (p := ⟨w.heap.size, 21, none⟩) h77 (.bool true)) (hHeld.2.far (p := ⟨w.heap.size, 21, none⟩) h37 (.bool true))
    have L3 := HL2.out.set 21 (.bool true)
    rw [e5] at L3
    have HL3 := Lib.hid L3
    have HM3 := Lib.hid (HM2.out.far (p := ⟨w.heap.size, 21, none⟩) h27 (.bool true))
    have HB10 := Lib.hid (HB9.out.setCell (p := ⟨w.heap.size, 21, none⟩) (Nat.le_refl _) (.bool true))
    clear HL2 HM2 HB9 hHeld kc fc L3
    have HL2 := HL3
    have HM2 := HM3
    have HB9 := HB10
    clear HL3 HM3 HB10
    refine hK.out _ _ hHeld1 (fun hHeld => ?_)
    clear hK hHeld1
    refine wpAnyH_done (by kernel_rfl) ?_ _
    clear e2 e3 e4 e5 hP2 hP3 hP4 hP5
    go_wp2_with (first
      | (refine wpList_load_row rfl 38 (.tmp 2) rfl w.heap.size rfl 38 P5.V (0, 0) _ HL2.out Tryz.underlying38 rfl P5.i ?_)
      | (refine wpList_store_row rfl 38 (.tmp 4) (.tmp 49) rfl (w.heap.size + 1) P5.V rfl rfl 38 zero22 HM2.out P5.i (by rw [P5.n]; rfl) P5.o ?_)
      | fail)
    refine bodyPost_ret (results_ct (p := 4) (u := 5) (ty := 38) (by kernel_rfl) _ _ (w.heap.size + 1) 38 P5.V _ rfl (HM2.out.row P5.V) Tryz.underlying38 rfl P5.i) rfl ?_
    exact ⟨by rw [HP.out]; rfl, below_setRow HB9.out (by omega) _⟩
  · have k1' := k1
    clear k1
    simp only [if_true, Bool.false_eq_true, if_false] at k1'
    have kI' := kI
    have fI' := fI
    clear kI fI
    simp only [sI, if_true, Bool.false_eq_true, if_false, Nat.reduceAdd] at kI' fI' HL1 M1 N1 O1 HB8
    go_upto_region 10 with fail
    have L2 : Blk (W8.setCell ⟨w.heap.size, 16, none⟩ (.string { data := #[] })) w.heap.size P1.V 38 := HL1.out
    have M2 : Blk (W8.setCell ⟨w.heap.size, 16, none⟩ (.string { data := #[] })) (w.heap.size + 1) zero22 38 := M1.out
    have N2 : Blk (W8.setCell ⟨w.heap.size, 16, none⟩ (.string { data := #[] })) w3.heap.size (manC m).toArray 34 := N1.out
    have O2 : Blk (W8.setCell ⟨w.heap.size, 16, none⟩ (.string { data := #[] })) w7.heap.size b.V 32 := O1.out
    have B2 : Below w.heap.size w (W8.setCell ⟨w.heap.size, 16, none⟩ (.string { data := #[] })) := HB8.out
    clear HL1 M1 N1 O1 HB8 kI' fI' k1' HB7 K17 K27 K37 K48
    generalize (W8.setCell ⟨w.heap.size, 16, none⟩ (.string { data := #[] })) = W9 at L2 M2 N2 O2 B2 ⊢
    have HL2 := Lib.hid (show Blk W9.drew w.heap.size P1.V 38 from L2)
    have HM2 := Lib.hid (show Blk W9.drew (w.heap.size + 1) zero22 38 from M2)
    have HN2 := Lib.hid N2
    have HO2 := Lib.hid O2
    have HB9 := Lib.hid (show Below w.heap.size w W9.drew from below_drewN B2 1)
    clear L2 M2 N2 O2 B2
    obtain ⟨P2, hP2⟩ : ∃ P2 : Pl, P2 = { P1 with b := b } := ⟨_, rfl⟩
    obtain ⟨P3, hP3⟩ : ∃ P3 : Pl, P3 = { P2 with p := m } := ⟨_, rfl⟩
    obtain ⟨P4, hP4⟩ : ∃ P4 : Pl, P4 = { P3 with got := [] } := ⟨_, rfl⟩
    obtain ⟨P5, hP5⟩ : ∃ P5 : Pl, P5 = { P4 with is := true } := ⟨_, rfl⟩
    have e2 : overA P1.V 1 b.V.toList = P2.V := by rw [hP2]; exact P1.set_b b
    have e3 : overA P2.V 17 (manC m).toArray.toList = P3.V := by rw [hP3]; exact P2.set_p m
    have e4 : P3.V.setIfInBounds 20 (.string { data := #[] }) = P4.V := by rw [hP4]; exact P3.set_got []
    have e5 : P4.V.setIfInBounds 21 (.bool true) = P5.V := by rw [hP5]; exact P4.set_is true
    have HP := Lib.hid (show P5 = R from by rw [hP5, hP4, hP3, hP2, HP1.out, HR.out])
    have h37 : w3.heap.size ≠ w.heap.size := by omega
    have h77 : w7.heap.size ≠ w.heap.size := by omega
    have h27 : w.heap.size + 1 ≠ w.heap.size := by omega
    refine wp_region_held_drew (S := fun W => Blk W w7.heap.size b.V 32 ∧ Blk W w3.heap.size (manC m).toArray 34) (by kernel_rfl) ⟨HO2.out, HN2.out⟩ (fun hHeld => ?_)
    refine wpAnyH_take (i := 0) (v := .agg b.V) rfl (by kernel_rfl) (by kernel_rfl) (by kernel_rfl) (fun _ _ _ h => h) (yieldsIf_load_mid rfl 32 (.tmp 8) rfl w7.heap.size 0 rfl b.V.toList _ (fun W h => h.1.range) Tryz.underlying32 rfl (by rw [Array.length_toList]; exact b.V_i)) hHeld ?_
    refine wpAnyH_take (i := 1) (v := .agg (manC m).toArray) rfl (by kernel_rfl) (by kernel_rfl) (by kernel_rfl) (fun _ _ _ h => h) (yieldsIf_load_mid rfl 34 (.tmp 6) rfl w3.heap.size 0 rfl (manC m).toArray.toList _ (fun W h => h.2.range) Tryz.underlying34 rfl (by rw [Array.length_toList]; exact manC_i m)) hHeld ?_
    refine wpAnyH_ready (rs := [2]) (by kernel_rfl) (by decide) (AllReadyH.cons rfl (fun K' hK => ?_) AllReadyH.nil)
    rw [if_pos (by rfl)]
    unfold Oper.wp execOp
    simp [go_sem]
    refine hK.out _ _ hHeld (fun hHeld => ?_)
    clear hK
    refine wpAnyH_ready (rs := [3]) (by kernel_rfl) (by decide) (AllReadyH.cons rfl (fun K' hK => ?_) AllReadyH.nil)
    rw [if_pos (by rfl)]
    refine wp_store_blk 32 (.tmp 45) (.tmp 43) rfl w.heap.size 1 b.V rfl rfl 38 P1.V HL2.out b.V_i (by rw [Pl.n]; first | (rw [Bt.V_size]; omega) | (show 17 + 3 ≤ 22; omega)) b.V_o ?_
    rw [e2]
    have hHeld1 := And.intro (hHeld.1.rowFar h77 P2.V) (hHeld.2.rowFar h37 P2.V)
    have HL3 := Lib.hid (HL2.out.row P2.V)
    have HM3 := Lib.hid (HM2.out.rowFar h27 P2.V)
    have HB10 := Lib.hid (below_setRow HB9.out (Nat.le_refl _) P2.V)
    clear HL2 HM2 HB9 hHeld
    have HL2 := HL3
    have HM2 := HM3
    have HB9 := HB10
    clear HL3 HM3 HB10
    refine hK.out _ _ hHeld1 (fun hHeld => ?_)
    clear hK hHeld1
    refine wpAnyH_ready (rs := [4]) (by kernel_rfl) (by decide) (AllReadyH.cons rfl (fun K' hK => ?_) AllReadyH.nil)
    rw [if_pos (by rfl)]
    unfold Oper.wp execOp
    simp [go_sem]
    refine hK.out _ _ hHeld (fun hHeld => ?_)
    clear hK
    refine wpAnyH_ready (rs := [5]) (by kernel_rfl) (by decide) (AllReadyH.cons rfl (fun K' hK => ?_) AllReadyH.nil)
    rw [if_pos (by rfl)]
    refine wp_store_blk 34 (.tmp 46) (.tmp 44) rfl w.heap.size 17 (manC m).toArray rfl rfl 38 P2.V HL2.out (manC_i m) (by rw [Pl.n]; first | (rw [Bt.V_size]; omega) | (show 17 + 3 ≤ 22; omega)) (manC_o m) ?_
    rw [e3]
    have hHeld1 := And.intro (hHeld.1.rowFar h77 P3.V) (hHeld.2.rowFar h37 P3.V)
    have HL3 := Lib.hid (HL2.out.row P3.V)
    have HM3 := Lib.hid (HM2.out.rowFar h27 P3.V)
    have HB10 := Lib.hid (below_setRow HB9.out (Nat.le_refl _) P3.V)
    clear HL2 HM2 HB9 hHeld
    have HL2 := HL3
    have HM2 := HM3
    have HB9 := HB10
    clear HL3 HM3 HB10
    refine hK.out _ _ hHeld1 (fun hHeld => ?_)
    clear hK hHeld1
    refine wpAnyH_ready (rs := [6]) (by kernel_rfl) (by decide) (AllReadyH.cons rfl (fun K' hK => ?_) AllReadyH.nil)
    rw [if_pos (by rfl)]
    unfold Oper.wp execOp
    simp [go_sem]
    refine hK.out _ _ hHeld (fun hHeld => ?_)
    clear hK
    refine wpAnyH_ready (rs := [7]) (by kernel_rfl) (by decide) (AllReadyH.cons rfl (fun K' hK => ?_) AllReadyH.nil)
    rw [if_pos (by rfl)]
    have kc := HL2.out.cell 20
    rw [P3.c20] at kc
    have fc := HL2.out.free 20
    unfold Oper.wp execOp
    simp [go_sem, kc, fc]
    have hHeld1 := And.intro (hHeld.1.far (p := ⟨w.heap.size, 20, none⟩) h77 (.string { data := #[] })) (hHeld.2.far (p := ⟨w.heap.size, 20, none⟩) h37 (.string { data := #[] }))
    have L3 := HL2.out.set 20 (.string { data := #[] })
    rw [e4] at L3
    have HL3 := Lib.hid L3
    have HM3 := Lib.hid (HM2.out.far (p := ⟨w.heap.size, 20, none⟩) h27 (.string { data := #[] }))
    have HB10 := Lib.hid (HB9.out.setCell (p := ⟨w.heap.size, 20, none⟩) (Nat.le_refl _) (.string { data := #[] }))
    clear HL2 HM2 HB9 hHeld kc fc L3
    have HL2 := HL3
    have HM2 := HM3
    have HB9 := HB10
    clear HL3 HM3 HB10
    refine hK.out _ _ hHeld1 (fun hHeld => ?_)
    clear hK hHeld1
    refine wpAnyH_ready (rs := [8]) (by kernel_rfl) (by decide) (AllReadyH.cons rfl (fun K' hK => ?_) AllReadyH.nil)
    rw [if_pos (by rfl)]
    unfold Oper.wp execOp
    simp [go_sem]
    refine hK.out _ _ hHeld (fun hHeld => ?_)
    clear hK
    refine wpAnyH_ready (rs := [9]) (by kernel_rfl) (by decide) (AllReadyH.cons rfl (fun K' hK => ?_) AllReadyH.nil)
    rw [if_pos (by rfl)]
    have kc := HL2.out.cell 21
    rw [P4.c21] at kc
    have fc := HL2.out.free 21
    unfold Oper.wp execOp
    simp [go_sem, kc, fc]
    have hHeld1 := And.intro (hHeld.1.far (p := ⟨w.heap.size, 21, none⟩) h77 (.bool true)) (hHeld.2.far (p := ⟨w.heap.size, 21, none⟩) h37 (.bool true))
    have L3 := HL2.out.set 21 (.bool true)
    rw [e5] at L3
    have HL3 := Lib.hid L3
    have HM3 := Lib.hid (HM2.out.far (p := ⟨w.heap.size, 21, none⟩) h27 (.bool true))
    have HB10 := Lib.hid (HB9.out.setCell (p := ⟨w.heap.size, 21, none⟩) (Nat.le_refl _) (.bool true))
    clear HL2 HM2 HB9 hHeld kc fc L3
    have HL2 := HL3
    have HM2 := HM3
    have HB9 := HB10
    clear HL3 HM3 HB10
    refine hK.out _ _ hHeld1 (fun hHeld => ?_)
    clear hK hHeld1
    refine wpAnyH_done (by kernel_rfl) ?_ _
    clear e2 e3 e4 e5 hP2 hP3 hP4 hP5
    go_wp2_with (first
      | (refine wpList_load_row rfl 38 (.tmp 2) rfl w.heap.size rfl 38 P5.V (0, 0) _ HL2.out Tryz.underlying38 rfl P5.i ?_)
      | (refine wpList_store_row rfl 38 (.tmp 4) (.tmp 49) rfl (w.heap.size + 1) P5.V rfl rfl 38 zero22 HM2.out P5.i (by rw [P5.n]; rfl) P5.o ?_)
      | fail)
    refine bodyPost_ret (results_ct (p := 4) (u := 5) (ty := 38) (by kernel_rfl) _ _ (w.heap.size + 1) 38 P5.V _ rfl (HM2.out.row P5.V) Tryz.underlying38 rfl P5.i) rfl ?_
    exact ⟨by rw [HP.out]; rfl, below_setRow HB9.out (by omega) _⟩
theorem pins_any (P : Pl) (hb : P.b.Ok) (hpg : P.pg ≤ 1024) (l : List UInt8) (hl : l.length < 4294967281) (w : World) : Calls Tryz.prog 33 #[.agg P.V, .string (bs l)] w fun e w' => e = .returned (.tuple #[.agg (P.install l).2.V, .int .i64 (P.install l).1]) ∧ Below w.heap.size w w' := by
  unfold Pl.install
  cases hp : parseL l with
  | none => exact pins_none P l hl hp w
  | some m =>
    simp only []
    by_cases h1 : 64 * P.pg < m.n
    · rw [if_pos h1]
      exact pins_long P hpg l hl m hp h1 w
    · rw [if_neg h1]
      cases hr : P.b.inst m.v with
      | error e => exact pins_err P hb hpg l hl m hp h1 e ((not_ok0 hb).1 _ hr) hr w
      | ok b => exact pins_ok P hb (!P.b.ac) (by simp) hpg l hl m hp h1 b hr _ rfl w
end Go.Proofs.YticnmogeknlmeaaGreatDoor.B
