/- Helper: a plain picture's slot starts, and the updater's; walked. No condition. -/
import Derived.Test.YticnmogeknlmeaaGreatDoorNZw
namespace Go.Proofs.YticnmogeknlmeaaGreatDoor.B
open Go.RowKit Go.Maps Go.Proofs.YticnmogeknlmeaaGreatDoorW.PrintWords Go.Proofs.YticnmogeknlmeaaGreatDoor.Later
set_option maxRecDepth 100000
set_option maxHeartbeats 4000000
theorem neq54 (a0 a1 : Int) (W : World) : (binOp .neq 54 (.agg #[.int .i64 a0, .int .i64 a1]) (.agg #[.int .i64 a0, .int .i64 a1])).run Tryz.prog W = .ok (.bool false) W := by
  rw [run_neq_struct]
  have h : (Op.equalIn 10000 54 (.agg #[.int .i64 a0, .int .i64 a1]) (.agg #[.int .i64 a0, .int .i64 a1])).run Tryz.prog W = .ok (a0 == a0 && a1 == a1) W := by
    refine eqA_of (d := 9999) Tryz.underlying54 (by kernel_rfl) ?_
    refine eqf_cons (by kernel_rfl) (by kernel_rfl) (by kernel_rfl) (run_equalIn_int W 9998 3 .i64 .i64 a0 a0 Tryz.underlying3) ?_
    exact eqf_last (by kernel_rfl) (by kernel_rfl) (by kernel_rfl) (run_equalIn_int W 9998 3 .i64 .i64 a1 a1 Tryz.underlying3)
  rw [h, Result.andThen_ok]
  simp
theorem act_5_false {w : World} {u a : Nat} {P : Pl} {x : US} (hR : Rl P x) (hI : x.Inv) (h3 : x.pg = 3) (hU : UsAt w u a x) (n : Int) (tx : List UInt8) (ht : tx.length ≤ 400) (hs0 : x.b.start.ac = false) : Calls Tryz.prog 12 #[.agg P.V, .pointer (some ⟨u, 0, none⟩), .agg #[.int .i64 5, .int .i64 n, .string (bs tx)]] w fun e w' => ActOut w u a e w' := by
  have hbx := Lib.hid (box3 w P.V #[.int .i64 5, .int .i64 n, .string (bs tx)])
  have hal := hU.al
  have hul := hU.ul
  have HU0 := Lib.hid hU
  have HI := Lib.hid hI
  have HR := Lib.hid hR
  have H3 := Lib.hid h3
  clear hU hI hR h3
  go_enter Tryz.func12, Tryz.ntmps12
  go_upto_region 1 with fail
  obtain ⟨hB, k1, k2, k3⟩ := hbx.out
  generalize (((w.alloc (.cells P.V 38)).alloc (.cells #[.int .i64 5, .int .i64 n, .string (bs tx)] 41)).alloc (.cells #[.int .i64 0, .int .i64 0, .bool false, .int .i64 0, .int .i64 0, .int .i64 0, .int .i64 0, .bool false, .bool false, .int .i64 0, .int .i64 0, .string { data := #[] }, .int .i64 0, .int .i64 0, .string { data := #[] }, .string { data := #[] }, .string { data := #[] }, .int .i64 0, .int .i64 0, .string { data := #[] }, .string { data := #[] }, .bool false] 38)) = W at hB k1 k2 k3 ⊢
  have HU := Lib.hid (HU0.out.below hB)
  have HB := Lib.hid hB
  have K1 := Lib.hid k1
  have K2 := Lib.hid k2
  have K3 := Lib.hid k3
  have hg3 := k3.lt
  clear hB k1 k2 k3 hbx
  have a0 : W.cell? ⟨w.heap.size + 1, 0, none⟩ = some (.int .i64 5) := K2.out.cell 0
  have a1 : W.cell? ⟨w.heap.size + 1, 1, none⟩ = some (.int .i64 n) := K2.out.cell 1
  have a2 : W.cell? ⟨w.heap.size + 1, 2, none⟩ = some (.string (bs tx)) := K2.out.cell 2
  obtain ⟨m, hm, hmn, hmd⟩ := HI.out.run
  have hmo := HI.out.ok.m _ m hm
  have hact := fun W => ract3_any P.b (HR.out.b ▸ HI.out.ok.b) 0 W
  rw [HR.out.b] at hact
  have hR1 := (HR.out.start HI.out).2
  have hi1 := HI.out.started
  have hpg : ({ x with b := x.b.start } : US).pg = 3 := H3.out
  have hui := fun W (hW : UsAt W u a x) => ustart_any hW HI.out.ok m hm hmo hmn hmd
  have hs := hs0.symm
  rw [hs0] at hui hm
  have hui : ∀ W, UsAt W u a x → Calls Tryz.prog 19 #[.pointer (some ⟨u, 0, none⟩)] W fun e w' => e = .returned (.tuple #[.agg #[.int .i64 0, .int .i64 (m.v : Int)], .int .i64 0]) ∧ UsAt w' u a { x with b := x.b.start } ∧ Mut (only a) W w' := fun W hW => hui W hW
  obtain ⟨x', hx'⟩ : ∃ x' : US, x' = { x with b := x.b.start } := ⟨_, rfl⟩
  obtain ⟨b, hb⟩ : ∃ b, b = x.b.start := ⟨_, rfl⟩
  obtain ⟨P', hP'⟩ : ∃ P' : Pl, P' = { P with b := b } := ⟨_, rfl⟩
  rw [← hb] at hact hx' hR1 hs0
  have hact : ∀ W, Calls Tryz.prog 36 #[.agg P.b.V, .int .i64 3, .int .i64 0] W fun e w' => e = .returned (.tuple #[.agg b.V, .int .i64 0]) ∧ Below W.heap.size W w' := fun W => by rw [HR.out.b]; exact hact W
  rw [← hb, ← hx'] at hui hi1 hpg
  rw [← hP', ← hx'] at hR1
  have hset : overA P.V 1 b.V.toList = P'.V := by rw [hP']; exact P.set_b b
  have hmp : P'.m false = m := by
    rw [hP']
    show P.m false = m
    rw [HR.out.m, hm]
    rfl
  have hbac : bAc b = 0 := by unfold bAc; rw [hs0]; rfl
  have HS := Lib.hid hset
  have Hact := Lib.hid hact
  have Hui := Lib.hid hui
  have HR' := Lib.hid hR1
  have HI' := Lib.hid hi1
  have HPG := Lib.hid hpg
  have HMP := Lib.hid hmp
  have HBA := Lib.hid hbac
  clear hset hact hui hR1 hi1 hpg hP' hx' hb hs hs0 hm hmn hmd hmo hmp hbac
  go_wp2_with (first
    | (refine wpList_load_blk rfl 32 (.tmp 115) rfl w.heap.size 1 rfl P.V P.b.V 38 _ K1.out P.at_b Tryz.underlying32 rfl P.b.V_i ?_)
    | fail)
  refine (Hact.out _).mono ?_
  rintro _ w7 ⟨rfl, hB⟩
  have hba : Below w7.heap.size w7 (w7.alloc (.cells #[.int .i64 0, .bool false, .int .i64 0, .int .i64 0, .int .i64 0, .int .i64 0, .bool false, .bool false] 32)) := (Below.refl _ _).alloc (Nat.le_refl _) _
  have K47 := Lib.hid (Blk.new w7 #[.int .i64 0, .bool false, .int .i64 0, .int .i64 0, .int .i64 0, .int .i64 0, .bool false, .bool false] 32)
  have hs7 := (HB.out.trans (hB.mono HB.out.size)).size
  have hw78 := hB.size
  have hlt1 := K1.out.lt
  have hb7 : Below w7.heap.size w7 ((w7.alloc (.cells #[.int .i64 0, .bool false, .int .i64 0, .int .i64 0, .int .i64 0, .int .i64 0, .bool false, .bool false] 32)).setRow w7.heap.size b.V) := below_setRow hba (Nat.le_refl _) b.V
  have hB2 := hB.trans (hb7.mono hB.size)
  have HB7 := Lib.hid (HB.out.trans (hB2.mono HB.out.size))
  have HU7 := Lib.hid (HU.out.below hB2)
  have K17 := Lib.hid (K1.out.below hB2)
  have K37 := Lib.hid (K3.out.below hB2)
  have K57 := Lib.hid (K47.out.row b.V)
  clear hB hba hb7 hB2
  go_upto_region 23 with (first
    | (refine wpList_store_row rfl 32 (.tmp 19) (.tmp 118) rfl w7.heap.size b.V rfl rfl 32 _ K47.out b.V_i (by rw [b.V_size]; rfl) b.V_o ?_)
    | fail)
  clear K47
  generalize ((w7.alloc (.cells #[.int .i64 0, .bool false, .int .i64 0, .int .i64 0, .int .i64 0, .int .i64 0, .bool false, .bool false] 32)).setRow w7.heap.size b.V) = W7 at HB7 HU7 K17 K37 K57 ⊢
  go_wp2_with fail
  refine (Hui.out _ HU7.out).mono ?_
  rintro _ w8 ⟨rfl, hU8, hm8⟩
  have hw8 := hm8.size
  have k57 := K57.out.lt
  have hba : Below w8.heap.size w8 (w8.alloc (.cells #[.int .i64 0, .int .i64 (m.v : Int)] 54)) := (Below.refl _ _).alloc (Nat.le_refl _) _
  have HM8 := Lib.hid (((Mut.of_below (S := only a) HB7.out).trans hm8).alloc (.cells #[.int .i64 0, .int .i64 (m.v : Int)] 54))
  have HU8 := Lib.hid (UsAt.below hU8 hba)
  have K18 := Lib.hid ((K17.out.kept hm8 (fun e => by have : w.heap.size = a := e; omega)).below hba)
  have K38 := Lib.hid ((K37.out.kept hm8 (fun e => by have : w.heap.size + 2 = a := e; omega)).below hba)
  have K58 := Lib.hid ((K57.out.kept hm8 (fun e => by have : w7.heap.size = a := e; omega)).below hba)
  have K68 := Lib.hid (Blk.new w8 #[.int .i64 0, .int .i64 (m.v : Int)] 54)
  clear hU8 hm8 hba
  go_upto_region 25 with fail
  generalize (w8.alloc (.cells #[.int .i64 0, .int .i64 (m.v : Int)] 54)) = W8 at HM8 HU8 K18 K38 K58 K68 ⊢
  have HM9 := Lib.hid (HM8.out.row (Nat.le_refl _) P'.V)
  have HU9 := Lib.hid (HU8.out.mut1 (Mut.rowAt W8 w.heap.size P'.V) K18.out (by omega) (by omega))
  have K19 := Lib.hid (K18.out.row P'.V)
  have K39 := Lib.hid (K38.out.rowFar (g := w.heap.size) (by omega) P'.V)
  have K59 := Lib.hid (K58.out.rowFar (g := w.heap.size) (by omega) P'.V)
  have K69 := Lib.hid (K68.out.rowFar (g := w.heap.size) (by omega) P'.V)
  go_upto_region 26 with (first
    | (refine wpList_load_row rfl 32 (.tmp 19) rfl w7.heap.size rfl 32 b.V (0, 0) _ K58.out Tryz.underlying32 rfl b.V_i ?_)
    | (refine wpList_store_blk rfl 32 (.tmp 128) (.tmp 127) rfl w.heap.size 1 b.V rfl rfl 38 P.V K18.out b.V_i (by rw [P.n, b.V_size]; omega) b.V_o ?_; rw [HS.out])
    | fail)
  generalize (W8.setRow w.heap.size P'.V) = W9 at HM9 HU9 K19 K39 K59 K69 ⊢
  have q0 : W9.cell? ⟨w8.heap.size, 0, none⟩ = some (.int .i64 0) := K69.out.cell 0
  have q1 : W9.cell? ⟨w8.heap.size, 1, none⟩ = some (.int .i64 (m.v : Int)) := K69.out.cell 1
  have q2 : W9.cell? ⟨w7.heap.size, 0, none⟩ = some (.int .i64 (bAc b)) := by
    rw [K59.out.cell]
    obtain ⟨b0, b2, b3, b4, b5, b1, b6, b7, h, e⟩ := b.V_lit
    rw [h, ← e]
    rfl
  have q3 : W9.cell? ⟨w.heap.size, 9, none⟩ = some (.int .i64 (m.v : Int)) := by
    have := K19.out.cell (9 + 3 * sI false)
    rw [P'.cm, HMP.out] at this
    exact this
  rw [HBA.out] at q2
  have hneq := neq54 0 (m.v : Int)
  clear HB7 HU7 K17 K37 K57 K18 K38 K58 K68 HM8 HU8
  go_quiet (fail)
  have hbn : Below W9.heap.size W9 (W9.drewN nq) := below_drewN (Below.refl _ _) nq
  have HUn := Lib.hid (HU9.out.below hbn)
  have HMn := Lib.hid (HM9.out.trans (Mut.of_below (S := only a) hbn))
  have K1n := Lib.hid (K19.out.below hbn)
  have K3n := Lib.hid (K39.out.below hbn)
  clear hbn q0 q1 q2 q3 hneq HU9 HM9 K19 K39 K59 K69
  generalize (W9.drewN nq) = Wn at HUn HMn K1n K3n ⊢
  go_wp2_with (first
    | (refine wpList_load_row rfl 38 (.tmp 3) rfl w.heap.size rfl 38 P'.V (0, 0) _ K1n.out Tryz.underlying38 rfl P'.i ?_)
    | (refine wpList_store_row rfl 38 (.tmp 6) (.tmp 150) rfl (w.heap.size + 1 + 1) P'.V rfl rfl 38 zero22 K3n.out P'.i (by rw [Pl.n]; rfl) P'.o ?_)
    | fail)
  have HM10 := Lib.hid (HMn.out.row (show w.heap.size ≤ w.heap.size + 1 + 1 by omega) P'.V)
  have HU10 := Lib.hid (HUn.out.mut1 (Mut.rowAt Wn (w.heap.size + 1 + 1) P'.V) K3n.out (by omega) (by omega))
  refine bodyPost_ret (results_ctt (p := 6) (u := 7) (v := 8) (ty := 38) (by kernel_rfl) _ _ (w.heap.size + 1 + 1) 38 P'.V _ rfl (K3n.out.row P'.V) Tryz.underlying38 rfl P'.i) rfl ?_
  exact ⟨P', x', _, rfl, HR'.out, HI'.out, HPG.out, HU10.out, HM10.out⟩
theorem act_5_true {w : World} {u a : Nat} {P : Pl} {x : US} (hR : Rl P x) (hI : x.Inv) (h3 : x.pg = 3) (hU : UsAt w u a x) (n : Int) (tx : List UInt8) (ht : tx.length ≤ 400) (hs0 : x.b.start.ac = true) : Calls Tryz.prog 12 #[.agg P.V, .pointer (some ⟨u, 0, none⟩), .agg #[.int .i64 5, .int .i64 n, .string (bs tx)]] w fun e w' => ActOut w u a e w' := by
  have hbx := Lib.hid (box3 w P.V #[.int .i64 5, .int .i64 n, .string (bs tx)])
  have hal := hU.al
  have hul := hU.ul
  have HU0 := Lib.hid hU
  have HI := Lib.hid hI
  have HR := Lib.hid hR
  have H3 := Lib.hid h3
  clear hU hI hR h3
  go_enter Tryz.func12, Tryz.ntmps12
  go_upto_region 1 with fail
  obtain ⟨hB, k1, k2, k3⟩ := hbx.out
  generalize (((w.alloc (.cells P.V 38)).alloc (.cells #[.int .i64 5, .int .i64 n, .string (bs tx)] 41)).alloc (.cells #[.int .i64 0, .int .i64 0, .bool false, .int .i64 0, .int .i64 0, .int .i64 0, .int .i64 0, .bool false, .bool false, .int .i64 0, .int .i64 0, .string { data := #[] }, .int .i64 0, .int .i64 0, .string { data := #[] }, .string { data := #[] }, .string { data := #[] }, .int .i64 0, .int .i64 0, .string { data := #[] }, .string { data := #[] }, .bool false] 38)) = W at hB k1 k2 k3 ⊢
  have HU := Lib.hid (HU0.out.below hB)
  have HB := Lib.hid hB
  have K1 := Lib.hid k1
  have K2 := Lib.hid k2
  have K3 := Lib.hid k3
  have hg3 := k3.lt
  clear hB k1 k2 k3 hbx
  have a0 : W.cell? ⟨w.heap.size + 1, 0, none⟩ = some (.int .i64 5) := K2.out.cell 0
  have a1 : W.cell? ⟨w.heap.size + 1, 1, none⟩ = some (.int .i64 n) := K2.out.cell 1
  have a2 : W.cell? ⟨w.heap.size + 1, 2, none⟩ = some (.string (bs tx)) := K2.out.cell 2
  obtain ⟨m, hm, hmn, hmd⟩ := HI.out.run
  have hmo := HI.out.ok.m _ m hm
  have hact := fun W => ract3_any P.b (HR.out.b ▸ HI.out.ok.b) 0 W
  rw [HR.out.b] at hact
  have hR1 := (HR.out.start HI.out).2
  have hi1 := HI.out.started
  have hpg : ({ x with b := x.b.start } : US).pg = 3 := H3.out
  have hui := fun W (hW : UsAt W u a x) => ustart_any hW HI.out.ok m hm hmo hmn hmd
  have hs := hs0.symm
  rw [hs0] at hui hm
  have hui : ∀ W, UsAt W u a x → Calls Tryz.prog 19 #[.pointer (some ⟨u, 0, none⟩)] W fun e w' => e = .returned (.tuple #[.agg #[.int .i64 1, .int .i64 (m.v : Int)], .int .i64 0]) ∧ UsAt w' u a { x with b := x.b.start } ∧ Mut (only a) W w' := fun W hW => hui W hW
  obtain ⟨x', hx'⟩ : ∃ x' : US, x' = { x with b := x.b.start } := ⟨_, rfl⟩
  obtain ⟨b, hb⟩ : ∃ b, b = x.b.start := ⟨_, rfl⟩
  obtain ⟨P', hP'⟩ : ∃ P' : Pl, P' = { P with b := b } := ⟨_, rfl⟩
  rw [← hb] at hact hx' hR1 hs0
  have hact : ∀ W, Calls Tryz.prog 36 #[.agg P.b.V, .int .i64 3, .int .i64 0] W fun e w' => e = .returned (.tuple #[.agg b.V, .int .i64 0]) ∧ Below W.heap.size W w' := fun W => by rw [HR.out.b]; exact hact W
  rw [← hb, ← hx'] at hui hi1 hpg
  rw [← hP', ← hx'] at hR1
  have hset : overA P.V 1 b.V.toList = P'.V := by rw [hP']; exact P.set_b b
  have hmp : P'.m true = m := by
    rw [hP']
    show P.m true = m
    rw [HR.out.m, hm]
    rfl
  have hbac : bAc b = 1 := by unfold bAc; rw [hs0]; rfl
  have HS := Lib.hid hset
  have Hact := Lib.hid hact
  have Hui := Lib.hid hui
  have HR' := Lib.hid hR1
  have HI' := Lib.hid hi1
  have HPG := Lib.hid hpg
  have HMP := Lib.hid hmp
  have HBA := Lib.hid hbac
  clear hset hact hui hR1 hi1 hpg hP' hx' hb hs hs0 hm hmn hmd hmo hmp hbac
  go_wp2_with (first
    | (refine wpList_load_blk rfl 32 (.tmp 115) rfl w.heap.size 1 rfl P.V P.b.V 38 _ K1.out P.at_b Tryz.underlying32 rfl P.b.V_i ?_)
    | fail)
  refine (Hact.out _).mono ?_
  rintro _ w7 ⟨rfl, hB⟩
  have hba : Below w7.heap.size w7 (w7.alloc (.cells #[.int .i64 0, .bool false, .int .i64 0, .int .i64 0, .int .i64 0, .int .i64 0, .bool false, .bool false] 32)) := (Below.refl _ _).alloc (Nat.le_refl _) _
  have K47 := Lib.hid (Blk.new w7 #[.int .i64 0, .bool false, .int .i64 0, .int .i64 0, .int .i64 0, .int .i64 0, .bool false, .bool false] 32)
  have hs7 := (HB.out.trans (hB.mono HB.out.size)).size
  have hw78 := hB.size
  have hlt1 := K1.out.lt
  have hb7 : Below w7.heap.size w7 ((w7.alloc (.cells #[.int .i64 0, .bool false, .int .i64 0, .int .i64 0, .int .i64 0, .int .i64 0, .bool false, .bool false] 32)).setRow w7.heap.size b.V) := below_setRow hba (Nat.le_refl _) b.V
  have hB2 := hB.trans (hb7.mono hB.size)
  have HB7 := Lib.hid (HB.out.trans (hB2.mono HB.out.size))
  have HU7 := Lib.hid (HU.out.below hB2)
  have K17 := Lib.hid (K1.out.below hB2)
  have K37 := Lib.hid (K3.out.below hB2)
  have K57 := Lib.hid (K47.out.row b.V)
  clear hB hba hb7 hB2
  go_upto_region 23 with (first
    | (refine wpList_store_row rfl 32 (.tmp 19) (.tmp 118) rfl w7.heap.size b.V rfl rfl 32 _ K47.out b.V_i (by rw [b.V_size]; rfl) b.V_o ?_)
    | fail)
  clear K47
  generalize ((w7.alloc (.cells #[.int .i64 0, .bool false, .int .i64 0, .int .i64 0, .int .i64 0, .int .i64 0, .bool false, .bool false] 32)).setRow w7.heap.size b.V) = W7 at HB7 HU7 K17 K37 K57 ⊢
  go_wp2_with fail
  refine (Hui.out _ HU7.out).mono ?_
  rintro _ w8 ⟨rfl, hU8, hm8⟩
  have hw8 := hm8.size
  have k57 := K57.out.lt
  have hba : Below w8.heap.size w8 (w8.alloc (.cells #[.int .i64 1, .int .i64 (m.v : Int)] 54)) := (Below.refl _ _).alloc (Nat.le_refl _) _
  have HM8 := Lib.hid (((Mut.of_below (S := only a) HB7.out).trans hm8).alloc (.cells #[.int .i64 1, .int .i64 (m.v : Int)] 54))
  have HU8 := Lib.hid (UsAt.below hU8 hba)
  have K18 := Lib.hid ((K17.out.kept hm8 (fun e => by have : w.heap.size = a := e; omega)).below hba)
  have K38 := Lib.hid ((K37.out.kept hm8 (fun e => by have : w.heap.size + 2 = a := e; omega)).below hba)
  have K58 := Lib.hid ((K57.out.kept hm8 (fun e => by have : w7.heap.size = a := e; omega)).below hba)
  have K68 := Lib.hid (Blk.new w8 #[.int .i64 1, .int .i64 (m.v : Int)] 54)
  clear hU8 hm8 hba
  go_upto_region 25 with fail
  generalize (w8.alloc (.cells #[.int .i64 1, .int .i64 (m.v : Int)] 54)) = W8 at HM8 HU8 K18 K38 K58 K68 ⊢
  have HM9 := Lib.hid (HM8.out.row (Nat.le_refl _) P'.V)
  have HU9 := Lib.hid (HU8.out.mut1 (Mut.rowAt W8 w.heap.size P'.V) K18.out (by omega) (by omega))
  have K19 := Lib.hid (K18.out.row P'.V)
  have K39 := Lib.hid (K38.out.rowFar (g := w.heap.size) (by omega) P'.V)
  have K59 := Lib.hid (K58.out.rowFar (g := w.heap.size) (by omega) P'.V)
  have K69 := Lib.hid (K68.out.rowFar (g := w.heap.size) (by omega) P'.V)
  go_upto_region 26 with (first
    | (refine wpList_load_row rfl 32 (.tmp 19) rfl w7.heap.size rfl 32 b.V (0, 0) _ K58.out Tryz.underlying32 rfl b.V_i ?_)
    | (refine wpList_store_blk rfl 32 (.tmp 128) (.tmp 127) rfl w.heap.size 1 b.V rfl rfl 38 P.V K18.out b.V_i (by rw [P.n, b.V_size]; omega) b.V_o ?_; rw [HS.out])
    | fail)
  generalize (W8.setRow w.heap.size P'.V) = W9 at HM9 HU9 K19 K39 K59 K69 ⊢
  have q0 : W9.cell? ⟨w8.heap.size, 0, none⟩ = some (.int .i64 1) := K69.out.cell 0
  have q1 : W9.cell? ⟨w8.heap.size, 1, none⟩ = some (.int .i64 (m.v : Int)) := K69.out.cell 1
  have q2 : W9.cell? ⟨w7.heap.size, 0, none⟩ = some (.int .i64 (bAc b)) := by
    rw [K59.out.cell]
    obtain ⟨b0, b2, b3, b4, b5, b1, b6, b7, h, e⟩ := b.V_lit
    rw [h, ← e]
    rfl
  have q3 : W9.cell? ⟨w.heap.size, 12, none⟩ = some (.int .i64 (m.v : Int)) := by
    have := K19.out.cell (9 + 3 * sI true)
    rw [P'.cm, HMP.out] at this
    exact this
  rw [HBA.out] at q2
  have hneq := neq54 1 (m.v : Int)
  clear HB7 HU7 K17 K37 K57 K18 K38 K58 K68 HM8 HU8
  go_quiet (fail)
  have hbn : Below W9.heap.size W9 (W9.drewN nq) := below_drewN (Below.refl _ _) nq
  have HUn := Lib.hid (HU9.out.below hbn)
  have HMn := Lib.hid (HM9.out.trans (Mut.of_below (S := only a) hbn))
  have K1n := Lib.hid (K19.out.below hbn)
  have K3n := Lib.hid (K39.out.below hbn)
  clear hbn q0 q1 q2 q3 hneq HU9 HM9 K19 K39 K59 K69
  generalize (W9.drewN nq) = Wn at HUn HMn K1n K3n ⊢
  go_wp2_with (first
    | (refine wpList_load_row rfl 38 (.tmp 3) rfl w.heap.size rfl 38 P'.V (0, 0) _ K1n.out Tryz.underlying38 rfl P'.i ?_)
    | (refine wpList_store_row rfl 38 (.tmp 6) (.tmp 150) rfl (w.heap.size + 1 + 1) P'.V rfl rfl 38 zero22 K3n.out P'.i (by rw [Pl.n]; rfl) P'.o ?_)
    | fail)
  have HM10 := Lib.hid (HMn.out.row (show w.heap.size ≤ w.heap.size + 1 + 1 by omega) P'.V)
  have HU10 := Lib.hid (HUn.out.mut1 (Mut.rowAt Wn (w.heap.size + 1 + 1) P'.V) K3n.out (by omega) (by omega))
  refine bodyPost_ret (results_ctt (p := 6) (u := 7) (v := 8) (ty := 38) (by kernel_rfl) _ _ (w.heap.size + 1 + 1) 38 P'.V _ rfl (K3n.out.row P'.V) Tryz.underlying38 rfl P'.i) rfl ?_
  exact ⟨P', x', _, rfl, HR'.out, HI'.out, HPG.out, HU10.out, HM10.out⟩
theorem act_any {w : World} {u a : Nat} {P : Pl} {x : US} (hR : Rl P x) (hI : x.Inv) (h3 : x.pg = 3) (hU : UsAt w u a x) (kd n : Int) (tx : List UInt8) (ht : tx.length ≤ 400) : Calls Tryz.prog 12 #[.agg P.V, .pointer (some ⟨u, 0, none⟩), .agg #[.int .i64 kd, .int .i64 n, .string (bs tx)]] w fun e w' => ActOut w u a e w' := by
  by_cases q0 : kd = 0
  · subst q0; exact act_0 hR hI h3 hU n tx ht
  · by_cases q1 : kd = 1
    · subst q1; exact act_1 hR hI h3 hU n tx ht
    · by_cases q2 : kd = 2
      · subst q2; exact act_2 hR hI h3 hU n tx ht
      · by_cases q3 : kd = 3
        · subst q3; exact act_3 hR hI h3 hU n tx ht
        · by_cases q4 : kd = 4
          · subst q4
            cases hr : x.b.switch n with
            | error e => exact act_4_err hR hI h3 hU n tx ht e ((not_ok0 hI.ok.b).2.2.1 n hr) hr
            | ok b => exact act_4_ok hR hI h3 hU n tx ht b hr
          · by_cases q5 : kd = 5
            · subst q5
              cases hs : x.b.start.ac with
              | false => exact act_5_false hR hI h3 hU n tx ht hs
              | true => exact act_5_true hR hI h3 hU n tx ht hs
            · have f := fun {k : Int} (h : ¬ kd = k) => (show (kd == k) = false by rw [beq_eq_false_iff_ne]; exact h)
              cases hr : x.b.confirm with
              | error e => exact act_6_err hR hI h3 hU n tx ht kd (f q0) (f q1) (f q2) (f q3) (f q4) (f q5) e ((not_ok0 hI.ok.b).2.2.2 hr) hr
              | ok b => exact act_6_ok hR hI h3 hU n tx ht kd (f q0) (f q1) (f q2) (f q3) (f q4) (f q5) b hr
end Go.Proofs.YticnmogeknlmeaaGreatDoor.B
