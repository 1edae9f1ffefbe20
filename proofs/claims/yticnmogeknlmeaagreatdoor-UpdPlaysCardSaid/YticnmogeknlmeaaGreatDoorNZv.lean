/- Helper: something more is done to a plain picture, and to the updater; walked. No condition. -/
import Derived.Test.YticnmogeknlmeaaGreatDoorNZu
namespace Go.Proofs.YticnmogeknlmeaaGreatDoor.B
open Go.RowKit Go.Maps Go.Proofs.YticnmogeknlmeaaGreatDoorW.PrintWords Go.Proofs.YticnmogeknlmeaaGreatDoor.Later
set_option maxRecDepth 100000
set_option maxHeartbeats 4000000
theorem tmod_three (x : Int) : -2 ≤ x.tmod 3 ∧ x.tmod 3 ≤ 2 := by
  have h1 : (x.tmod 3).natAbs < 3 := by
    have := Int.natAbs_tmod x 3
    rw [this]
    have := Nat.mod_lt x.natAbs (show 0 < (3 : Int).natAbs by decide)
    exact this
  omega
theorem act_2 {w : World} {u a : Nat} {P : Pl} {x : US} (hR : Rl P x) (hI : x.Inv) (h3 : x.pg = 3) (hU : UsAt w u a x) (n : Int) (tx : List UInt8) (ht : tx.length ≤ 400) : Calls Tryz.prog 12 #[.agg P.V, .pointer (some ⟨u, 0, none⟩), .agg #[.int .i64 2, .int .i64 n, .string (bs tx)]] w fun e w' => ActOut w u a e w' := by
  have hbx := Lib.hid (box3 w P.V #[.int .i64 2, .int .i64 n, .string (bs tx)])
  have hal := hU.al
  have hul := hU.ul
  have HU0 := Lib.hid hU
  have HI := Lib.hid hI
  have HR := Lib.hid hR
  have H3 := Lib.hid h3
  clear hU hI hR h3
  go_enter Tryz.func12, Tryz.ntmps12
  go_upto_region 1 with fail
  obtain ⟨hB, k1, k2, k3⟩ := hbx.out
  generalize (((w.alloc (.cells P.V 38)).alloc (.cells #[.int .i64 2, .int .i64 n, .string (bs tx)] 41)).alloc (.cells #[.int .i64 0, .int .i64 0, .bool false, .int .i64 0, .int .i64 0, .int .i64 0, .int .i64 0, .bool false, .bool false, .int .i64 0, .int .i64 0, .string { data := #[] }, .int .i64 0, .int .i64 0, .string { data := #[] }, .string { data := #[] }, .string { data := #[] }, .int .i64 0, .int .i64 0, .string { data := #[] }, .string { data := #[] }, .bool false] 38)) = W at hB k1 k2 k3 ⊢
  have HU := Lib.hid (HU0.out.below hB)
  have HB := Lib.hid hB
  have K1 := Lib.hid k1
  have K2 := Lib.hid k2
  have K3 := Lib.hid k3
  have hg3 := k3.lt
  clear hB k1 k2 k3 hbx
  have a0 : W.cell? ⟨w.heap.size + 1, 0, none⟩ = some (.int .i64 2) := K2.out.cell 0
  have a1 : W.cell? ⟨w.heap.size + 1, 1, none⟩ = some (.int .i64 n) := K2.out.cell 1
  have a2 : W.cell? ⟨w.heap.size + 1, 2, none⟩ = some (.string (bs tx)) := K2.out.cell 2
  have htm := tmod_three n
  obtain ⟨tt, htt⟩ : ∃ tt : Int, (P.got.length : Int) + n.tmod 3 = tt := ⟨_, rfl⟩
  have hgl : P.got.length ≤ 192 := by have := HR.out.got HI.out; rw [H3.out] at this; omega
  have k20 : W.cell? ⟨w.heap.size, 20, none⟩ = some (.string (bs P.got)) := by rw [K1.out.cell, P.c20]
  have hgs := bs_size P.got
  have hinst := fun W => pchk_any P (by omega) (by have := HR.out.lim; omega) tt tx (by omega) W
  have hin := HR.out.chunk HI.out tt tx
  have hi1 := HI.out.chunk tt tx
  have hpg : (x.chunk tt tx).2.pg = 3 := by rw [US.pg_chunk, H3.out]
  have hui := fun W (hW : UsAt W u a x) => uchunk_any hW HI.out.ok HI.out.inst HI.out.whole tt tx (by omega)
  obtain ⟨P', hP'⟩ : ∃ P', P' = (P.chunk tt tx).2 := ⟨_, rfl⟩
  obtain ⟨x', hx'⟩ : ∃ x', x' = (x.chunk tt tx).2 := ⟨_, rfl⟩
  obtain ⟨c, hc⟩ : ∃ c, c = (x.chunk tt tx).1 := ⟨_, rfl⟩
  rw [hin.1, ← hP', ← hc] at hinst
  rw [← hx', ← hc] at hui
  rw [← hP', ← hx'] at hin
  rw [← hx'] at hi1 hpg
  have Hinst := Lib.hid hinst
  have Hui := Lib.hid hui
  have HR' := Lib.hid hin.2
  have HI' := Lib.hid hi1
  have HPG := Lib.hid hpg
  clear hinst hui hin hi1 hpg hP' hx' hc
  go_wp2_with (first
    | (refine wpList_load_row rfl 38 (.tmp 3) rfl w.heap.size rfl 38 P.V (0, 0) _ K1.out Tryz.underlying38 rfl P.i ?_)
    | fail)
  refine (Hinst.out _).mono ?_
  rintro _ w7 ⟨rfl, hB⟩
  have HB7 := Lib.hid (HB.out.trans (hB.mono HB.out.size))
  have HU7 := Lib.hid (HU.out.below hB)
  have K27 := Lib.hid (K2.out.below hB)
  have K37 := Lib.hid (K3.out.below hB)
  have hs7 := hB.size
  clear hB
  have hba : Below w7.heap.size w7 (w7.alloc (.cells #[.int .i64 0, .int .i64 0, .bool false, .int .i64 0, .int .i64 0, .int .i64 0, .int .i64 0, .bool false, .bool false, .int .i64 0, .int .i64 0, .string { data := #[] }, .int .i64 0, .int .i64 0, .string { data := #[] }, .string { data := #[] }, .string { data := #[] }, .int .i64 0, .int .i64 0, .string { data := #[] }, .string { data := #[] }, .bool false] 38)) := (Below.refl _ _).alloc (Nat.le_refl _) _
  have K47 := Lib.hid (show Blk (w7.alloc (.cells #[.int .i64 0, .int .i64 0, .bool false, .int .i64 0, .int .i64 0, .int .i64 0, .int .i64 0, .bool false, .bool false, .int .i64 0, .int .i64 0, .string { data := #[] }, .int .i64 0, .int .i64 0, .string { data := #[] }, .string { data := #[] }, .string { data := #[] }, .int .i64 0, .int .i64 0, .string { data := #[] }, .string { data := #[] }, .bool false] 38)) w7.heap.size zero22 38 from Blk.new w7 zero22 38)
  have HB8 := Lib.hid (below_setRow (HB7.out.trans (hba.mono HB7.out.size)) HB7.out.size P'.V)
  have h8 : Below w7.heap.size w7 ((w7.alloc (.cells #[.int .i64 0, .int .i64 0, .bool false, .int .i64 0, .int .i64 0, .int .i64 0, .int .i64 0, .bool false, .bool false, .int .i64 0, .int .i64 0, .string { data := #[] }, .int .i64 0, .int .i64 0, .string { data := #[] }, .string { data := #[] }, .string { data := #[] }, .int .i64 0, .int .i64 0, .string { data := #[] }, .string { data := #[] }, .bool false] 38)).setRow w7.heap.size P'.V) := below_setRow hba (Nat.le_refl _) P'.V
  have HU8 := Lib.hid (HU7.out.below h8)
  have K28 := Lib.hid (K27.out.below h8)
  have K38 := Lib.hid (K37.out.below h8)
  have K48 := Lib.hid (K47.out.row P'.V)
  clear h8 hba
  go_upto_region 12 with (first
    | (refine wpList_store_row rfl 38 (.tmp 13) (.tmp 72) rfl w7.heap.size P'.V rfl rfl 38 zero22 K47.out P'.i (by rw [P'.n]; rfl) P'.o ?_)
    | fail)
  generalize ((w7.alloc (.cells #[.int .i64 0, .int .i64 0, .bool false, .int .i64 0, .int .i64 0, .int .i64 0, .int .i64 0, .bool false, .bool false, .int .i64 0, .int .i64 0, .string { data := #[] }, .int .i64 0, .int .i64 0, .string { data := #[] }, .string { data := #[] }, .string { data := #[] }, .int .i64 0, .int .i64 0, .string { data := #[] }, .string { data := #[] }, .bool false] 38)).setRow w7.heap.size P'.V) = W8 at HB8 HU8 K28 K38 K48 ⊢
  have hh : w7.heap.size < W8.heap.size := K48.out.lt
  have hne : ¬ only a w7.heap.size := fun e => by have : w7.heap.size = a := e; omega
  refine wp_region_held_drew (S := fun W => Blk W w7.heap.size P'.V 38 ∧ Blk W (w.heap.size + 1) #[.int .i64 2, .int .i64 n, .string (bs tx)] 41) (by kernel_rfl) ⟨K48.out, K28.out⟩ (fun hHeld => ?_)
  refine wpAnyH_take (i := 0) (v := .agg P'.V) rfl (by kernel_rfl) (by kernel_rfl) (by kernel_rfl) (fun _ _ _ h => h) (yieldsIf_load_mid rfl 38 (.tmp 13) rfl w7.heap.size 0 rfl P'.V.toList _ (fun W h => h.1.range) Tryz.underlying38 rfl (by rw [Array.length_toList]; exact P'.i)) hHeld ?_
  refine wpAnyH_take (i := 1) (v := .int .i64 c) rfl (by kernel_rfl) (by kernel_rfl) (by kernel_rfl) (fun _ _ _ h => h) (Or.inl ⟨by rfl, fun W hW => by rfl⟩) hHeld ?_
  refine wpAnyH_take (i := 2) (v := .pointer (some ⟨u, 0, none⟩)) rfl (by kernel_rfl) (by kernel_rfl) (by kernel_rfl) (fun _ _ _ h => h) (Or.inl ⟨by rfl, fun W hW => by rfl⟩) hHeld ?_
  refine wpAnyH_take (i := 3) (v := .int .i64 tt) rfl (by kernel_rfl) (by kernel_rfl) (by kernel_rfl) (fun _ _ _ h => h) (Or.inl ⟨by rfl, fun W hW => by rfl⟩) hHeld ?_
  refine wpAnyH_take (i := 4) (v := .pointer (some ⟨w.heap.size + 1, 2, none⟩)) rfl (by kernel_rfl) (by kernel_rfl) (by kernel_rfl) (fun _ _ _ h => h) (Or.inl ⟨by rfl, fun W hW => by go_simp⟩) hHeld ?_
  refine wpAnyH_take (i := 5) (v := .string (bs tx)) rfl (by kernel_rfl) (by kernel_rfl) (by kernel_rfl) (fun _ _ _ h => h) (Or.inl ⟨by rfl, fun W hW => by (have h2 : W.cell? ⟨w.heap.size + 1, 2, none⟩ = some (.string (bs tx)) := hW.2.cell 2; go_simp)⟩) hHeld ?_
  refine wpAnyH_ready (rs := [6]) (by kernel_rfl) (by decide) (AllReadyH.cons rfl (fun K' hK => ?_) AllReadyH.nil)
  go_simp
  refine (Hui.out _ (HU8.out.below (below_drewN (Below.refl W8.heap.size W8) 1))).mono ?_
  rintro _ w9 ⟨rfl, hU9, hm⟩
  have hm9 : Mut (only a) W8 w9 := (Mut.of_below (below_drewN (Below.refl W8.heap.size W8) 1)).trans hm
  have K49 := K48.out.kept hm9 hne
  have K29 := K28.out.kept hm9 (fun e => by have : w.heap.size + 1 = a := e; omega)
  have K39 := K38.out.kept hm9 (fun e => by have : w.heap.size + 2 = a := e; omega)
  have HM9 := Lib.hid ((Mut.of_below (S := only a) HB8.out).trans hm9)
  have HU9 := Lib.hid hU9
  clear hm hm9 hU9
  refine hK.out _ _ ⟨K49, K29⟩ (fun hHeld => ?_)
  clear hK
  refine wpAnyH_ready (rs := [7]) (by kernel_rfl) (by decide) (AllReadyH.cons rfl (fun K' hK => ?_) AllReadyH.nil)
  rw [if_pos (by rfl)]
  refine wp_store_row 38 (.tmp 6) (.tmp 74) rfl (w.heap.size + 1 + 1) P'.V rfl rfl 38 zero22 K39 P'.i (by rw [Pl.n]; rfl) P'.o ?_
  have HM10 := Lib.hid (HM9.out.row (show w.heap.size ≤ w.heap.size + 1 + 1 by omega) P'.V)
  have HU10 := Lib.hid (HU9.out.mut1 (Mut.rowAt w9 (w.heap.size + 1 + 1) P'.V) K39 (by omega) (by omega))
  have K310 := K39.row P'.V
  refine hK.out _ _ ⟨K49.rowFar (g := w.heap.size + 1 + 1) (by omega) P'.V, K29.rowFar (g := w.heap.size + 1 + 1) (by omega) P'.V⟩ (fun hHeld => ?_)
  clear hK
  refine wpAnyH_ready (rs := [8]) (by kernel_rfl) (by decide) (AllReadyH.cons rfl (fun K' hK => ?_) AllReadyH.nil)
  go_simp
  refine hK.out _ _ hHeld (fun hHeld => ?_)
  clear hK
  refine wpAnyH_ready (rs := [9]) (by kernel_rfl) (by decide) (AllReadyH.cons rfl (fun K' hK => ?_) AllReadyH.nil)
  go_simp
  refine hK.out _ _ hHeld (fun hHeld => ?_)
  clear hK
  refine wpAnyH_done (by kernel_rfl) ?_ _
  go_wp2_with fail
  refine bodyPost_ret (results_ctt (p := 6) (u := 7) (v := 8) (ty := 38) (by kernel_rfl) _ _ (w.heap.size + 1 + 1) 38 P'.V _ rfl K310 Tryz.underlying38 rfl P'.i) rfl ?_
  exact ⟨P', x', c, rfl, HR'.out, HI'.out, HPG.out, HU10.out, HM10.out⟩
theorem act_3 {w : World} {u a : Nat} {P : Pl} {x : US} (hR : Rl P x) (hI : x.Inv) (h3 : x.pg = 3) (hU : UsAt w u a x) (n : Int) (tx : List UInt8) (ht : tx.length ≤ 400) : Calls Tryz.prog 12 #[.agg P.V, .pointer (some ⟨u, 0, none⟩), .agg #[.int .i64 3, .int .i64 n, .string (bs tx)]] w fun e w' => ActOut w u a e w' := by
  have hbx := Lib.hid (box3 w P.V #[.int .i64 3, .int .i64 n, .string (bs tx)])
  have hal := hU.al
  have hul := hU.ul
  have HU0 := Lib.hid hU
  have HI := Lib.hid hI
  have HR := Lib.hid hR
  have H3 := Lib.hid h3
  clear hU hI hR h3
  go_enter Tryz.func12, Tryz.ntmps12
  go_upto_region 1 with fail
  obtain ⟨hB, k1, k2, k3⟩ := hbx.out
  generalize (((w.alloc (.cells P.V 38)).alloc (.cells #[.int .i64 3, .int .i64 n, .string (bs tx)] 41)).alloc (.cells #[.int .i64 0, .int .i64 0, .bool false, .int .i64 0, .int .i64 0, .int .i64 0, .int .i64 0, .bool false, .bool false, .int .i64 0, .int .i64 0, .string { data := #[] }, .int .i64 0, .int .i64 0, .string { data := #[] }, .string { data := #[] }, .string { data := #[] }, .int .i64 0, .int .i64 0, .string { data := #[] }, .string { data := #[] }, .bool false] 38)) = W at hB k1 k2 k3 ⊢
  have HU := Lib.hid (HU0.out.below hB)
  have HB := Lib.hid hB
  have K1 := Lib.hid k1
  have K2 := Lib.hid k2
  have K3 := Lib.hid k3
  have hg3 := k3.lt
  clear hB k1 k2 k3 hbx
  have a0 : W.cell? ⟨w.heap.size + 1, 0, none⟩ = some (.int .i64 3) := K2.out.cell 0
  have a1 : W.cell? ⟨w.heap.size + 1, 1, none⟩ = some (.int .i64 n) := K2.out.cell 1
  have a2 : W.cell? ⟨w.heap.size + 1, 2, none⟩ = some (.string (bs tx)) := K2.out.cell 2
  have hgl : P.got.length ≤ 192 := by have := HR.out.got HI.out; rw [H3.out] at this; omega
  have hinst := fun W => pfin_any P (HR.out.b ▸ HI.out.ok.b) (by omega) W
  have hin := HR.out.finalize HI.out
  have hi1 := HI.out.finalize
  have hpg : x.finalize.2.pg = 3 := by rw [US.pg_finalize, H3.out]
  have hui := fun W (hW : UsAt W u a x) => ufin_any hW HI.out.ok HI.out.inst
  obtain ⟨P', hP'⟩ : ∃ P', P' = (P.finalize).2 := ⟨_, rfl⟩
  obtain ⟨x', hx'⟩ : ∃ x', x' = (x.finalize).2 := ⟨_, rfl⟩
  obtain ⟨c, hc⟩ : ∃ c, c = (x.finalize).1 := ⟨_, rfl⟩
  rw [hin.1, ← hP', ← hc] at hinst
  rw [← hx', ← hc] at hui
  rw [← hP', ← hx'] at hin
  rw [← hx'] at hi1 hpg
  have Hinst := Lib.hid hinst
  have Hui := Lib.hid hui
  have HR' := Lib.hid hin.2
  have HI' := Lib.hid hi1
  have HPG := Lib.hid hpg
  clear hinst hui hin hi1 hpg hP' hx' hc
  go_wp2_with (first
    | (refine wpList_load_row rfl 38 (.tmp 3) rfl w.heap.size rfl 38 P.V (0, 0) _ K1.out Tryz.underlying38 rfl P.i ?_)
    | fail)
  refine (Hinst.out _).mono ?_
  rintro _ w7 ⟨rfl, hB⟩
  have HB7 := Lib.hid (HB.out.trans (hB.mono HB.out.size))
  have HU7 := Lib.hid (HU.out.below hB)
  have K27 := Lib.hid (K2.out.below hB)
  have K37 := Lib.hid (K3.out.below hB)
  have hs7 := hB.size
  clear hB
  have hba : Below w7.heap.size w7 (w7.alloc (.cells #[.int .i64 0, .int .i64 0, .bool false, .int .i64 0, .int .i64 0, .int .i64 0, .int .i64 0, .bool false, .bool false, .int .i64 0, .int .i64 0, .string { data := #[] }, .int .i64 0, .int .i64 0, .string { data := #[] }, .string { data := #[] }, .string { data := #[] }, .int .i64 0, .int .i64 0, .string { data := #[] }, .string { data := #[] }, .bool false] 38)) := (Below.refl _ _).alloc (Nat.le_refl _) _
  have K47 := Lib.hid (show Blk (w7.alloc (.cells #[.int .i64 0, .int .i64 0, .bool false, .int .i64 0, .int .i64 0, .int .i64 0, .int .i64 0, .bool false, .bool false, .int .i64 0, .int .i64 0, .string { data := #[] }, .int .i64 0, .int .i64 0, .string { data := #[] }, .string { data := #[] }, .string { data := #[] }, .int .i64 0, .int .i64 0, .string { data := #[] }, .string { data := #[] }, .bool false] 38)) w7.heap.size zero22 38 from Blk.new w7 zero22 38)
  have HB8 := Lib.hid (below_setRow (HB7.out.trans (hba.mono HB7.out.size)) HB7.out.size P'.V)
  have h8 : Below w7.heap.size w7 ((w7.alloc (.cells #[.int .i64 0, .int .i64 0, .bool false, .int .i64 0, .int .i64 0, .int .i64 0, .int .i64 0, .bool false, .bool false, .int .i64 0, .int .i64 0, .string { data := #[] }, .int .i64 0, .int .i64 0, .string { data := #[] }, .string { data := #[] }, .string { data := #[] }, .int .i64 0, .int .i64 0, .string { data := #[] }, .string { data := #[] }, .bool false] 38)).setRow w7.heap.size P'.V) := below_setRow hba (Nat.le_refl _) P'.V
  have HU8 := Lib.hid (HU7.out.below h8)
  have K28 := Lib.hid (K27.out.below h8)
  have K38 := Lib.hid (K37.out.below h8)
  have K48 := Lib.hid (K47.out.row P'.V)
  clear h8 hba
  go_upto_region 15 with (first
    | (refine wpList_store_row rfl 38 (.tmp 15) (.tmp 86) rfl w7.heap.size P'.V rfl rfl 38 zero22 K47.out P'.i (by rw [P'.n]; rfl) P'.o ?_)
    | fail)
  generalize ((w7.alloc (.cells #[.int .i64 0, .int .i64 0, .bool false, .int .i64 0, .int .i64 0, .int .i64 0, .int .i64 0, .bool false, .bool false, .int .i64 0, .int .i64 0, .string { data := #[] }, .int .i64 0, .int .i64 0, .string { data := #[] }, .string { data := #[] }, .string { data := #[] }, .int .i64 0, .int .i64 0, .string { data := #[] }, .string { data := #[] }, .bool false] 38)).setRow w7.heap.size P'.V) = W8 at HB8 HU8 K28 K38 K48 ⊢
  have hh : w7.heap.size < W8.heap.size := K48.out.lt
  have hne : ¬ only a w7.heap.size := fun e => by have : w7.heap.size = a := e; omega
  refine wp_region_held_drew (S := fun W => Blk W w7.heap.size P'.V 38 ∧ Blk W (w.heap.size + 1) #[.int .i64 3, .int .i64 n, .string (bs tx)] 41) (by kernel_rfl) ⟨K48.out, K28.out⟩ (fun hHeld => ?_)
  refine wpAnyH_take (i := 0) (v := .agg P'.V) rfl (by kernel_rfl) (by kernel_rfl) (by kernel_rfl) (fun _ _ _ h => h) (yieldsIf_load_mid rfl 38 (.tmp 15) rfl w7.heap.size 0 rfl P'.V.toList _ (fun W h => h.1.range) Tryz.underlying38 rfl (by rw [Array.length_toList]; exact P'.i)) hHeld ?_
  refine wpAnyH_take (i := 1) (v := .int .i64 c) rfl (by kernel_rfl) (by kernel_rfl) (by kernel_rfl) (fun _ _ _ h => h) (Or.inl ⟨by rfl, fun W hW => by rfl⟩) hHeld ?_
  refine wpAnyH_take (i := 2) (v := .pointer (some ⟨u, 0, none⟩)) rfl (by kernel_rfl) (by kernel_rfl) (by kernel_rfl) (fun _ _ _ h => h) (Or.inl ⟨by rfl, fun W hW => by rfl⟩) hHeld ?_
  refine wpAnyH_ready (rs := [3]) (by kernel_rfl) (by decide) (AllReadyH.cons rfl (fun K' hK => ?_) AllReadyH.nil)
  go_simp
  refine (Hui.out _ (HU8.out.below (below_drewN (Below.refl W8.heap.size W8) 1))).mono ?_
  rintro _ w9 ⟨rfl, hU9, hm⟩
  have hm9 : Mut (only a) W8 w9 := (Mut.of_below (below_drewN (Below.refl W8.heap.size W8) 1)).trans hm
  have K49 := K48.out.kept hm9 hne
  have K29 := K28.out.kept hm9 (fun e => by have : w.heap.size + 1 = a := e; omega)
  have K39 := K38.out.kept hm9 (fun e => by have : w.heap.size + 2 = a := e; omega)
  have HM9 := Lib.hid ((Mut.of_below (S := only a) HB8.out).trans hm9)
  have HU9 := Lib.hid hU9
  clear hm hm9 hU9
  refine hK.out _ _ ⟨K49, K29⟩ (fun hHeld => ?_)
  clear hK
  refine wpAnyH_ready (rs := [4]) (by kernel_rfl) (by decide) (AllReadyH.cons rfl (fun K' hK => ?_) AllReadyH.nil)
  rw [if_pos (by rfl)]
  refine wp_store_row 38 (.tmp 6) (.tmp 88) rfl (w.heap.size + 1 + 1) P'.V rfl rfl 38 zero22 K39 P'.i (by rw [Pl.n]; rfl) P'.o ?_
  have HM10 := Lib.hid (HM9.out.row (show w.heap.size ≤ w.heap.size + 1 + 1 by omega) P'.V)
  have HU10 := Lib.hid (HU9.out.mut1 (Mut.rowAt w9 (w.heap.size + 1 + 1) P'.V) K39 (by omega) (by omega))
  have K310 := K39.row P'.V
  refine hK.out _ _ ⟨K49.rowFar (g := w.heap.size + 1 + 1) (by omega) P'.V, K29.rowFar (g := w.heap.size + 1 + 1) (by omega) P'.V⟩ (fun hHeld => ?_)
  clear hK
  refine wpAnyH_ready (rs := [5]) (by kernel_rfl) (by decide) (AllReadyH.cons rfl (fun K' hK => ?_) AllReadyH.nil)
  go_simp
  refine hK.out _ _ hHeld (fun hHeld => ?_)
  clear hK
  refine wpAnyH_ready (rs := [6]) (by kernel_rfl) (by decide) (AllReadyH.cons rfl (fun K' hK => ?_) AllReadyH.nil)
  go_simp
  refine hK.out _ _ hHeld (fun hHeld => ?_)
  clear hK
  refine wpAnyH_done (by kernel_rfl) ?_ _
  go_wp2_with fail
  refine bodyPost_ret (results_ctt (p := 6) (u := 7) (v := 8) (ty := 38) (by kernel_rfl) _ _ (w.heap.size + 1 + 1) 38 P'.V _ rfl K310 Tryz.underlying38 rfl P'.i) rfl ?_
  exact ⟨P', x', c, rfl, HR'.out, HI'.out, HPG.out, HU10.out, HM10.out⟩
end Go.Proofs.YticnmogeknlmeaaGreatDoor.B
