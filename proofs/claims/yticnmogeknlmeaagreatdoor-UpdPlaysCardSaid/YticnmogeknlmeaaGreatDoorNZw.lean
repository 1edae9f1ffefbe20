/- Helper: something more is done to a plain picture, and to the updater; walked. No condition. -/
import Derived.Test.YticnmogeknlmeaaGreatDoorNZv
namespace Go.Proofs.YticnmogeknlmeaaGreatDoor.B
open Go.RowKit Go.Maps Go.Proofs.YticnmogeknlmeaaGreatDoorW.PrintWords Go.Proofs.YticnmogeknlmeaaGreatDoor.Later
set_option maxRecDepth 100000
set_option maxHeartbeats 4000000
theorem act_4_err {w : World} {u a : Nat} {P : Pl} {x : US} (hR : Rl P x) (hI : x.Inv) (h3 : x.pg = 3) (hU : UsAt w u a x) (n : Int) (tx : List UInt8) (ht : tx.length ≤ 400) (e : Int) (he : e ≠ 0) (hr : x.b.switch n = .error e) : Calls Tryz.prog 12 #[.agg P.V, .pointer (some ⟨u, 0, none⟩), .agg #[.int .i64 4, .int .i64 n, .string (bs tx)]] w fun e w' => ActOut w u a e w' := by
  have hbx := Lib.hid (box3 w P.V #[.int .i64 4, .int .i64 n, .string (bs tx)])
  have hal := hU.al
  have hul := hU.ul
  have HU0 := Lib.hid hU
  have HI := Lib.hid hI
  have HR := Lib.hid hR
  have H3 := Lib.hid h3
  clear hU hI hR h3
  go_enter Tryz.func12, Tryz.ntmps12
  go_upto_region 1 with fail
  obtain ⟨hB, k1, k2, k3⟩ := hbx.out
  generalize (((w.alloc (.cells P.V 38)).alloc (.cells #[.int .i64 4, .int .i64 n, .string (bs tx)] 41)).alloc (.cells #[.int .i64 0, .int .i64 0, .bool false, .int .i64 0, .int .i64 0, .int .i64 0, .int .i64 0, .bool false, .bool false, .int .i64 0, .int .i64 0, .string { data := #[] }, .int .i64 0, .int .i64 0, .string { data := #[] }, .string { data := #[] }, .string { data := #[] }, .int .i64 0, .int .i64 0, .string { data := #[] }, .string { data := #[] }, .bool false] 38)) = W at hB k1 k2 k3 ⊢
  have HU := Lib.hid (HU0.out.below hB)
  have HB := Lib.hid hB
  have K1 := Lib.hid k1
  have K2 := Lib.hid k2
  have K3 := Lib.hid k3
  have hg3 := k3.lt
  clear hB k1 k2 k3 hbx
  have a0 : W.cell? ⟨w.heap.size + 1, 0, none⟩ = some (.int .i64 4) := K2.out.cell 0
  have a1 : W.cell? ⟨w.heap.size + 1, 1, none⟩ = some (.int .i64 n) := K2.out.cell 1
  have a2 : W.cell? ⟨w.heap.size + 1, 2, none⟩ = some (.string (bs tx)) := K2.out.cell 2
  have hact := fun W => ract2_any P.b (HR.out.b ▸ HI.out.ok.b) n W
  rw [HR.out.b, hr, ← HR.out.b] at hact
  have Hact := Lib.hid (fun W => (show Calls Tryz.prog 36 #[.agg P.b.V, .int .i64 2, .int .i64 n] W fun r w' => r = .returned (.tuple #[.agg #[.int .i64 0, .bool false, .int .i64 0, .int .i64 0, .int .i64 0, .int .i64 0, .bool false, .bool false], .int .i64 e]) ∧ Below W.heap.size W w' from hact W))
  have hR1 : Rl P (x.on (x.b.switch n)) := by rw [hr]; exact HR.out
  have hi1 : (x.on (x.b.switch n)).Inv := HI.out.switch n
  have hpg : (x.on (x.b.switch n)).pg = 3 := by rw [US.pg_on, H3.out]
  have hui := fun W (hW : UsAt W u a x) => uswitch_any hW HI.out.ok n
  obtain ⟨x', hx'⟩ : ∃ x', x' = x.on (x.b.switch n) := ⟨_, rfl⟩
  obtain ⟨P', hP'⟩ : ∃ P' : Pl, P' = P := ⟨_, rfl⟩
  obtain ⟨c, hc⟩ : ∃ c : Int, c = e := ⟨_, rfl⟩
  rw [← hx'] at hR1 hi1 hpg hui
  rw [← hP'] at hR1
  rw [hr, show BR.E (.error e) = c from hc.symm] at hui
  have Hui := Lib.hid hui
  have HR' := Lib.hid hR1
  have HI' := Lib.hid hi1
  have HPG := Lib.hid hpg
  have HP' := Lib.hid hP'
  have HC := Lib.hid hc
  clear hact hui hR1 hi1 hpg hP' hc hx' hr
  go_wp2_with (first
    | (refine wpList_load_blk rfl 32 (.tmp 95) rfl w.heap.size 1 rfl P.V P.b.V 38 _ K1.out P.at_b Tryz.underlying32 rfl P.b.V_i ?_)
    | fail)
  refine (Hact.out _).mono ?_
  rintro _ w7 ⟨rfl, hB⟩
  have hba : Below w7.heap.size w7 (w7.alloc (.cells #[.int .i64 0, .bool false, .int .i64 0, .int .i64 0, .int .i64 0, .int .i64 0, .bool false, .bool false] 32)) := (Below.refl _ _).alloc (Nat.le_refl _) _
  have hB2 := hB.trans (hba.mono hB.size)
  have HB8 := Lib.hid (HB.out.trans (hB2.mono HB.out.size))
  have HU8 := Lib.hid (HU.out.below hB2)
  have K48 := Lib.hid (show Blk (w7.alloc (.cells #[.int .i64 0, .bool false, .int .i64 0, .int .i64 0, .int .i64 0, .int .i64 0, .bool false, .bool false] 32)) w.heap.size P'.V 38 from by rw [HP'.out]; exact K1.out.below hB2)
  have K28 := Lib.hid (K2.out.below hB2)
  have K38 := Lib.hid (K3.out.below hB2)
  have hne0 : (e == 0) = false := by rw [beq_eq_false_iff_ne]; exact he
  have hw0 := HB.out.size
  clear hB hba hB2 he
  go_upto_region 20 with fail
  generalize (w7.alloc (.cells #[.int .i64 0, .bool false, .int .i64 0, .int .i64 0, .int .i64 0, .int .i64 0, .bool false, .bool false] 32)) = W8 at HB8 HU8 K28 K38 K48 ⊢
  have hce := HC.out
  subst hce
  have hh : w.heap.size < W8.heap.size := K48.out.lt
  have hne : ¬ only a w.heap.size := fun e => by have : w.heap.size = a := e; omega
  refine wp_region_held_drew (S := fun W => Blk W w.heap.size P'.V 38 ∧ Blk W (w.heap.size + 1) #[.int .i64 4, .int .i64 n, .string (bs tx)] 41) (by kernel_rfl) ⟨K48.out, K28.out⟩ (fun hHeld => ?_)
  refine wpAnyH_take (i := 0) (v := .agg P'.V) rfl (by kernel_rfl) (by kernel_rfl) (by kernel_rfl) (fun _ _ _ h => h) (yieldsIf_load_mid rfl 38 (.tmp 3) rfl w.heap.size 0 rfl P'.V.toList _ (fun W h => h.1.range) Tryz.underlying38 rfl (by rw [Array.length_toList]; exact P'.i)) hHeld ?_
  refine wpAnyH_take (i := 1) (v := .int .i64 c) rfl (by kernel_rfl) (by kernel_rfl) (by kernel_rfl) (fun _ _ _ h => h) (Or.inl ⟨by rfl, fun W hW => by rfl⟩) hHeld ?_
  refine wpAnyH_take (i := 2) (v := .pointer (some ⟨u, 0, none⟩)) rfl (by kernel_rfl) (by kernel_rfl) (by kernel_rfl) (fun _ _ _ h => h) (Or.inl ⟨by rfl, fun W hW => by rfl⟩) hHeld ?_
  refine wpAnyH_take (i := 3) (v := .pointer (some ⟨w.heap.size + 1, 1, none⟩)) rfl (by kernel_rfl) (by kernel_rfl) (by kernel_rfl) (fun _ _ _ h => h) (Or.inl ⟨by rfl, fun W hW => by go_simp⟩) hHeld ?_
  refine wpAnyH_take (i := 4) (v := .int .i64 n) rfl (by kernel_rfl) (by kernel_rfl) (by kernel_rfl) (fun _ _ _ h => h) (Or.inl ⟨by rfl, fun W hW => by (have h2 : W.cell? ⟨w.heap.size + 1, 1, none⟩ = some (.int .i64 n) := hW.2.cell 1; go_simp)⟩) hHeld ?_
  refine wpAnyH_ready (rs := [5]) (by kernel_rfl) (by decide) (AllReadyH.cons rfl (fun K' hK => ?_) AllReadyH.nil)
  go_simp
  refine (Hui.out _ (HU8.out.below (below_drewN (Below.refl W8.heap.size W8) 1))).mono ?_
  rintro _ w9 ⟨rfl, hU9, hm⟩
  have hm9 : Mut (only a) W8 w9 := (Mut.of_below (below_drewN (Below.refl W8.heap.size W8) 1)).trans hm
  have K49 := K48.out.kept hm9 hne
  have K29 := K28.out.kept hm9 (fun e => by have : w.heap.size + 1 = a := e; omega)
  have K39 := K38.out.kept hm9 (fun e => by have : w.heap.size + 2 = a := e; omega)
  have HM9 := Lib.hid ((Mut.of_below (S := only a) HB8.out).trans hm9)
  have HU9 := Lib.hid hU9
  clear hm hm9 hU9
  refine hK.out _ _ ⟨K49, K29⟩ (fun hHeld => ?_)
  clear hK
  refine wpAnyH_ready (rs := [6]) (by kernel_rfl) (by decide) (AllReadyH.cons rfl (fun K' hK => ?_) AllReadyH.nil)
  rw [if_pos (by rfl)]
  refine wp_store_row 38 (.tmp 6) (.tmp 106) rfl (w.heap.size + 1 + 1) P'.V rfl rfl 38 zero22 K39 P'.i (by rw [Pl.n]; rfl) P'.o ?_
  have HM10 := Lib.hid (HM9.out.row (show w.heap.size ≤ w.heap.size + 1 + 1 by omega) P'.V)
  have HU10 := Lib.hid (HU9.out.mut1 (Mut.rowAt w9 (w.heap.size + 1 + 1) P'.V) K39 (by omega) (by omega))
  have K310 := K39.row P'.V
  refine hK.out _ _ ⟨K49.rowFar (g := w.heap.size + 1 + 1) (by omega) P'.V, K29.rowFar (g := w.heap.size + 1 + 1) (by omega) P'.V⟩ (fun hHeld => ?_)
  clear hK
  refine wpAnyH_ready (rs := [7]) (by kernel_rfl) (by decide) (AllReadyH.cons rfl (fun K' hK => ?_) AllReadyH.nil)
  go_simp
  refine hK.out _ _ hHeld (fun hHeld => ?_)
  clear hK
  refine wpAnyH_ready (rs := [8]) (by kernel_rfl) (by decide) (AllReadyH.cons rfl (fun K' hK => ?_) AllReadyH.nil)
  go_simp
  refine hK.out _ _ hHeld (fun hHeld => ?_)
  clear hK
  refine wpAnyH_done (by kernel_rfl) ?_ _
  go_wp2_with fail
  refine bodyPost_ret (results_ctt (p := 6) (u := 7) (v := 8) (ty := 38) (by kernel_rfl) _ _ (w.heap.size + 1 + 1) 38 P'.V _ rfl K310 Tryz.underlying38 rfl P'.i) rfl ?_
  exact ⟨P', x', _, rfl, HR'.out, HI'.out, HPG.out, HU10.out, HM10.out⟩
theorem act_4_ok {w : World} {u a : Nat} {P : Pl} {x : US} (hR : Rl P x) (hI : x.Inv) (h3 : x.pg = 3) (hU : UsAt w u a x) (n : Int) (tx : List UInt8) (ht : tx.length ≤ 400) (b : Bt) (hr : x.b.switch n = .ok b) : Calls Tryz.prog 12 #[.agg P.V, .pointer (some ⟨u, 0, none⟩), .agg #[.int .i64 4, .int .i64 n, .string (bs tx)]] w fun e w' => ActOut w u a e w' := by
  have hbx := Lib.hid (box3 w P.V #[.int .i64 4, .int .i64 n, .string (bs tx)])
  have hal := hU.al
  have hul := hU.ul
  have HU0 := Lib.hid hU
  have HI := Lib.hid hI
  have HR := Lib.hid hR
  have H3 := Lib.hid h3
  clear hU hI hR h3
  go_enter Tryz.func12, Tryz.ntmps12
  go_upto_region 1 with fail
  obtain ⟨hB, k1, k2, k3⟩ := hbx.out
  generalize (((w.alloc (.cells P.V 38)).alloc (.cells #[.int .i64 4, .int .i64 n, .string (bs tx)] 41)).alloc (.cells #[.int .i64 0, .int .i64 0, .bool false, .int .i64 0, .int .i64 0, .int .i64 0, .int .i64 0, .bool false, .bool false, .int .i64 0, .int .i64 0, .string { data := #[] }, .int .i64 0, .int .i64 0, .string { data := #[] }, .string { data := #[] }, .string { data := #[] }, .int .i64 0, .int .i64 0, .string { data := #[] }, .string { data := #[] }, .bool false] 38)) = W at hB k1 k2 k3 ⊢
  have HU := Lib.hid (HU0.out.below hB)
  have HB := Lib.hid hB
  have K1 := Lib.hid k1
  have K2 := Lib.hid k2
  have K3 := Lib.hid k3
  have hg3 := k3.lt
  clear hB k1 k2 k3 hbx
  have a0 : W.cell? ⟨w.heap.size + 1, 0, none⟩ = some (.int .i64 4) := K2.out.cell 0
  have a1 : W.cell? ⟨w.heap.size + 1, 1, none⟩ = some (.int .i64 n) := K2.out.cell 1
  have a2 : W.cell? ⟨w.heap.size + 1, 2, none⟩ = some (.string (bs tx)) := K2.out.cell 2
  have hact := fun W => ract2_any P.b (HR.out.b ▸ HI.out.ok.b) n W
  rw [HR.out.b, hr, ← HR.out.b] at hact
  have Hact := Lib.hid (fun W => (show Calls Tryz.prog 36 #[.agg P.b.V, .int .i64 2, .int .i64 n] W fun r w' => r = .returned (.tuple #[.agg b.V, .int .i64 0]) ∧ Below W.heap.size W w' from hact W))
  have hR1 : Rl { P with b := b } (x.on (x.b.switch n)) := (HR.out.switch HI.out n).2 b hr
  have hi1 : (x.on (x.b.switch n)).Inv := HI.out.switch n
  have hpg : (x.on (x.b.switch n)).pg = 3 := by rw [US.pg_on, H3.out]
  have hui := fun W (hW : UsAt W u a x) => uswitch_any hW HI.out.ok n
  obtain ⟨x', hx'⟩ : ∃ x', x' = x.on (x.b.switch n) := ⟨_, rfl⟩
  obtain ⟨P', hP'⟩ : ∃ P' : Pl, P' = { P with b := b } := ⟨_, rfl⟩
  obtain ⟨c, hc⟩ : ∃ c : Int, c = 0 := ⟨_, rfl⟩
  rw [← hx'] at hR1 hi1 hpg hui
  rw [← hP'] at hR1
  rw [hr, show BR.E (.ok b) = c from hc.symm] at hui
  have hset : overA P.V 1 b.V.toList = P'.V := by rw [hP']; exact P.set_b b
  have HS := Lib.hid hset
  clear hset
  have Hui := Lib.hid hui
  have HR' := Lib.hid hR1
  have HI' := Lib.hid hi1
  have HPG := Lib.hid hpg
  have HP' := Lib.hid hP'
  have HC := Lib.hid hc
  clear hact hui hR1 hi1 hpg hP' hc hx' hr
  go_wp2_with (first
    | (refine wpList_load_blk rfl 32 (.tmp 95) rfl w.heap.size 1 rfl P.V P.b.V 38 _ K1.out P.at_b Tryz.underlying32 rfl P.b.V_i ?_)
    | fail)
  refine (Hact.out _).mono ?_
  rintro _ w7 ⟨rfl, hB⟩
  have hba : Below w7.heap.size w7 (w7.alloc (.cells #[.int .i64 0, .bool false, .int .i64 0, .int .i64 0, .int .i64 0, .int .i64 0, .bool false, .bool false] 32)) := (Below.refl _ _).alloc (Nat.le_refl _) _
  have K47 := Lib.hid (Blk.new w7 #[.int .i64 0, .bool false, .int .i64 0, .int .i64 0, .int .i64 0, .int .i64 0, .bool false, .bool false] 32)
  have hs7 := (HB.out.trans (hB.mono HB.out.size)).size
  have hw78 := hB.size
  have hlt1 := K1.out.lt
  have hb7 : Below w7.heap.size w7 ((w7.alloc (.cells #[.int .i64 0, .bool false, .int .i64 0, .int .i64 0, .int .i64 0, .int .i64 0, .bool false, .bool false] 32)).setRow w7.heap.size b.V) := below_setRow hba (Nat.le_refl _) b.V
  have hB2 := hB.trans (hb7.mono hB.size)
  have HB7 := Lib.hid (HB.out.trans (hB2.mono HB.out.size))
  have HU7 := Lib.hid (HU.out.below hB2)
  have K17 := Lib.hid (K1.out.below hB2)
  have K27 := Lib.hid (K2.out.below hB2)
  have K37 := Lib.hid (K3.out.below hB2)
  have K57 := Lib.hid (K47.out.row b.V)
  clear hB hba hb7 hB2
  go_upto_region 19 with (first
    | (refine wpList_store_row rfl 32 (.tmp 17) (.tmp 100) rfl w7.heap.size b.V rfl rfl 32 _ K47.out b.V_i (by rw [b.V_size]; rfl) b.V_o ?_)
    | fail)
  clear K47
  generalize ((w7.alloc (.cells #[.int .i64 0, .bool false, .int .i64 0, .int .i64 0, .int .i64 0, .int .i64 0, .bool false, .bool false] 32)).setRow w7.heap.size b.V) = W7 at HB7 HU7 K17 K27 K37 K57 ⊢
  have HB8 := Lib.hid (below_setRow HB7.out (Nat.le_refl _) P'.V)
  have HU8 := Lib.hid (HU7.out.mut1 (Mut.rowAt W7 w.heap.size P'.V) K17.out (by omega) (by omega))
  have K48 := Lib.hid (K17.out.row P'.V)
  have K28 := Lib.hid (K27.out.rowFar (g := w.heap.size) (by omega) P'.V)
  have K38 := Lib.hid (K37.out.rowFar (g := w.heap.size) (by omega) P'.V)
  go_upto_region 20 with (first
    | (refine wpList_load_row rfl 32 (.tmp 17) rfl w7.heap.size rfl 32 b.V (0, 0) _ K57.out Tryz.underlying32 rfl b.V_i ?_)
    | (refine wpList_store_blk rfl 32 (.tmp 105) (.tmp 104) rfl w.heap.size 1 b.V rfl rfl 38 P.V K17.out b.V_i (by rw [P.n, b.V_size]; omega) b.V_o ?_; rw [HS.out])
    | fail)
  generalize (W7.setRow w.heap.size P'.V) = W8 at HB8 HU8 K28 K38 K48 ⊢
  have hce := HC.out
  subst hce
  have hh : w.heap.size < W8.heap.size := K48.out.lt
  have hne : ¬ only a w.heap.size := fun e => by have : w.heap.size = a := e; omega
  refine wp_region_held_drew (S := fun W => Blk W w.heap.size P'.V 38 ∧ Blk W (w.heap.size + 1) #[.int .i64 4, .int .i64 n, .string (bs tx)] 41) (by kernel_rfl) ⟨K48.out, K28.out⟩ (fun hHeld => ?_)
  refine wpAnyH_take (i := 0) (v := .agg P'.V) rfl (by kernel_rfl) (by kernel_rfl) (by kernel_rfl) (fun _ _ _ h => h) (yieldsIf_load_mid rfl 38 (.tmp 3) rfl w.heap.size 0 rfl P'.V.toList _ (fun W h => h.1.range) Tryz.underlying38 rfl (by rw [Array.length_toList]; exact P'.i)) hHeld ?_
  refine wpAnyH_take (i := 1) (v := .int .i64 0) rfl (by kernel_rfl) (by kernel_rfl) (by kernel_rfl) (fun _ _ _ h => h) (Or.inl ⟨by rfl, fun W hW => by rfl⟩) hHeld ?_
  refine wpAnyH_take (i := 2) (v := .pointer (some ⟨u, 0, none⟩)) rfl (by kernel_rfl) (by kernel_rfl) (by kernel_rfl) (fun _ _ _ h => h) (Or.inl ⟨by rfl, fun W hW => by rfl⟩) hHeld ?_
  refine wpAnyH_take (i := 3) (v := .pointer (some ⟨w.heap.size + 1, 1, none⟩)) rfl (by kernel_rfl) (by kernel_rfl) (by kernel_rfl) (fun _ _ _ h => h) (Or.inl ⟨by rfl, fun W hW => by go_simp⟩) hHeld ?_
  refine wpAnyH_take (i := 4) (v := .int .i64 n) rfl (by kernel_rfl) (by kernel_rfl) (by kernel_rfl) (fun _ _ _ h => h) (Or.inl ⟨by rfl, fun W hW => by (have h2 : W.cell? ⟨w.heap.size + 1, 1, none⟩ = some (.int .i64 n) := hW.2.cell 1; go_simp)⟩) hHeld ?_
  refine wpAnyH_ready (rs := [5]) (by kernel_rfl) (by decide) (AllReadyH.cons rfl (fun K' hK => ?_) AllReadyH.nil)
  go_simp
  refine (Hui.out _ (HU8.out.below (below_drewN (Below.refl W8.heap.size W8) 1))).mono ?_
  rintro _ w9 ⟨rfl, hU9, hm⟩
  have hm9 : Mut (only a) W8 w9 := (Mut.of_below (below_drewN (Below.refl W8.heap.size W8) 1)).trans hm
  have K49 := K48.out.kept hm9 hne
  have K29 := K28.out.kept hm9 (fun e => by have : w.heap.size + 1 = a := e; omega)
  have K39 := K38.out.kept hm9 (fun e => by have : w.heap.size + 2 = a := e; omega)
  have HM9 := Lib.hid ((Mut.of_below (S := only a) HB8.out).trans hm9)
  have HU9 := Lib.hid hU9
  clear hm hm9 hU9
  refine hK.out _ _ ⟨K49, K29⟩ (fun hHeld => ?_)
  clear hK
  refine wpAnyH_ready (rs := [6]) (by kernel_rfl) (by decide) (AllReadyH.cons rfl (fun K' hK => ?_) AllReadyH.nil)
  rw [if_pos (by rfl)]
  refine wp_store_row 38 (.tmp 6) (.tmp 106) rfl (w.heap.size + 1 + 1) P'.V rfl rfl 38 zero22 K39 P'.i (by rw [Pl.n]; rfl) P'.o ?_
  have HM10 := Lib.hid (HM9.out.row (show w.heap.size ≤ w.heap.size + 1 + 1 by omega) P'.V)
  have HU10 := Lib.hid (HU9.out.mut1 (Mut.rowAt w9 (w.heap.size + 1 + 1) P'.V) K39 (by omega) (by omega))
  have K310 := K39.row P'.V
  refine hK.out _ _ ⟨K49.rowFar (g := w.heap.size + 1 + 1) (by omega) P'.V, K29.rowFar (g := w.heap.size + 1 + 1) (by omega) P'.V⟩ (fun hHeld => ?_)
  clear hK
  refine wpAnyH_ready (rs := [7]) (by kernel_rfl) (by decide) (AllReadyH.cons rfl (fun K' hK => ?_) AllReadyH.nil)
  go_simp
  refine hK.out _ _ hHeld (fun hHeld => ?_)
  clear hK
  refine wpAnyH_ready (rs := [8]) (by kernel_rfl) (by decide) (AllReadyH.cons rfl (fun K' hK => ?_) AllReadyH.nil)
  go_simp
  refine hK.out _ _ hHeld (fun hHeld => ?_)
  clear hK
  refine wpAnyH_done (by kernel_rfl) ?_ _
  go_wp2_with fail
  refine bodyPost_ret (results_ctt (p := 6) (u := 7) (v := 8) (ty := 38) (by kernel_rfl) _ _ (w.heap.size + 1 + 1) 38 P'.V _ rfl K310 Tryz.underlying38 rfl P'.i) rfl ?_
  exact ⟨P', x', _, rfl, HR'.out, HI'.out, HPG.out, HU10.out, HM10.out⟩
theorem act_6_err {w : World} {u a : Nat} {P : Pl} {x : US} (hR : Rl P x) (hI : x.Inv) (h3 : x.pg = 3) (hU : UsAt w u a x) (n : Int) (tx : List UInt8) (ht : tx.length ≤ 400) (kd : Int) (q0 : (kd == 0) = false) (q1 : (kd == 1) = false) (q2 : (kd == 2) = false) (q3 : (kd == 3) = false) (q4 : (kd == 4) = false) (q5 : (kd == 5) = false) (e : Int) (he : e ≠ 0) (hr : x.b.confirm = .error e) : Calls Tryz.prog 12 #[.agg P.V, .pointer (some ⟨u, 0, none⟩), .agg #[.int .i64 kd, .int .i64 n, .string (bs tx)]] w fun e w' => ActOut w u a e w' := by
  have hbx := Lib.hid (box3 w P.V #[.int .i64 kd, .int .i64 n, .string (bs tx)])
  have hal := hU.al
  have hul := hU.ul
  have HU0 := Lib.hid hU
  have HI := Lib.hid hI
  have HR := Lib.hid hR
  have H3 := Lib.hid h3
  clear hU hI hR h3
  go_enter Tryz.func12, Tryz.ntmps12
  go_upto_region 1 with fail
  obtain ⟨hB, k1, k2, k3⟩ := hbx.out
  generalize (((w.alloc (.cells P.V 38)).alloc (.cells #[.int .i64 kd, .int .i64 n, .string (bs tx)] 41)).alloc (.cells #[.int .i64 0, .int .i64 0, .bool false, .int .i64 0, .int .i64 0, .int .i64 0, .int .i64 0, .bool false, .bool false, .int .i64 0, .int .i64 0, .string { data := #[] }, .int .i64 0, .int .i64 0, .string { data := #[] }, .string { data := #[] }, .string { data := #[] }, .int .i64 0, .int .i64 0, .string { data := #[] }, .string { data := #[] }, .bool false] 38)) = W at hB k1 k2 k3 ⊢
  have HU := Lib.hid (HU0.out.below hB)
  have HB := Lib.hid hB
  have K1 := Lib.hid k1
  have K2 := Lib.hid k2
  have K3 := Lib.hid k3
  have hg3 := k3.lt
  clear hB k1 k2 k3 hbx
  have a0 : W.cell? ⟨w.heap.size + 1, 0, none⟩ = some (.int .i64 kd) := K2.out.cell 0
  have a1 : W.cell? ⟨w.heap.size + 1, 1, none⟩ = some (.int .i64 n) := K2.out.cell 1
  have a2 : W.cell? ⟨w.heap.size + 1, 2, none⟩ = some (.string (bs tx)) := K2.out.cell 2
  have hact := fun W => ract4_any P.b (HR.out.b ▸ HI.out.ok.b) 0 W
  rw [HR.out.b, hr, ← HR.out.b] at hact
  have Hact := Lib.hid (fun W => (show Calls Tryz.prog 36 #[.agg P.b.V, .int .i64 4, .int .i64 0] W fun r w' => r = .returned (.tuple #[.agg #[.int .i64 0, .bool false, .int .i64 0, .int .i64 0, .int .i64 0, .int .i64 0, .bool false, .bool false], .int .i64 e]) ∧ Below W.heap.size W w' from hact W))
  have hR1 : Rl P (x.on (x.b.confirm)) := by rw [hr]; exact HR.out
  have hi1 : (x.on (x.b.confirm)).Inv := HI.out.confirm
  have hpg : (x.on (x.b.confirm)).pg = 3 := by rw [US.pg_on, H3.out]
  have hui := fun W (hW : UsAt W u a x) => uconfirm_any hW HI.out.ok
  obtain ⟨x', hx'⟩ : ∃ x', x' = x.on (x.b.confirm) := ⟨_, rfl⟩
  obtain ⟨P', hP'⟩ : ∃ P' : Pl, P' = P := ⟨_, rfl⟩
  obtain ⟨c, hc⟩ : ∃ c : Int, c = e := ⟨_, rfl⟩
  rw [← hx'] at hR1 hi1 hpg hui
  rw [← hP'] at hR1
  rw [hr, show BR.E (.error e) = c from hc.symm] at hui
  have Hui := Lib.hid hui
  have HR' := Lib.hid hR1
  have HI' := Lib.hid hi1
  have HPG := Lib.hid hpg
  have HP' := Lib.hid hP'
  have HC := Lib.hid hc
  clear hact hui hR1 hi1 hpg hP' hc hx' hr
  go_wp2_with (first
    | (refine wpList_load_blk rfl 32 (.tmp 154) rfl w.heap.size 1 rfl P.V P.b.V 38 _ K1.out P.at_b Tryz.underlying32 rfl P.b.V_i ?_)
    | fail)
  refine (Hact.out _).mono ?_
  rintro _ w7 ⟨rfl, hB⟩
  have hba : Below w7.heap.size w7 (w7.alloc (.cells #[.int .i64 0, .bool false, .int .i64 0, .int .i64 0, .int .i64 0, .int .i64 0, .bool false, .bool false] 32)) := (Below.refl _ _).alloc (Nat.le_refl _) _
  have hB2 := hB.trans (hba.mono hB.size)
  have HB8 := Lib.hid (HB.out.trans (hB2.mono HB.out.size))
  have HU8 := Lib.hid (HU.out.below hB2)
  have K48 := Lib.hid (show Blk (w7.alloc (.cells #[.int .i64 0, .bool false, .int .i64 0, .int .i64 0, .int .i64 0, .int .i64 0, .bool false, .bool false] 32)) w.heap.size P'.V 38 from by rw [HP'.out]; exact K1.out.below hB2)
  have K28 := Lib.hid (K2.out.below hB2)
  have K38 := Lib.hid (K3.out.below hB2)
  have hne0 : (e == 0) = false := by rw [beq_eq_false_iff_ne]; exact he
  have hw0 := HB.out.size
  clear hB hba hB2 he
  go_upto_region 32 with fail
  generalize (w7.alloc (.cells #[.int .i64 0, .bool false, .int .i64 0, .int .i64 0, .int .i64 0, .int .i64 0, .bool false, .bool false] 32)) = W8 at HB8 HU8 K28 K38 K48 ⊢
  have hce := HC.out
  subst hce
  have hh : w.heap.size < W8.heap.size := K48.out.lt
  have hne : ¬ only a w.heap.size := fun e => by have : w.heap.size = a := e; omega
  refine wp_region_held_drew (S := fun W => Blk W w.heap.size P'.V 38 ∧ Blk W (w.heap.size + 1) #[.int .i64 kd, .int .i64 n, .string (bs tx)] 41) (by kernel_rfl) ⟨K48.out, K28.out⟩ (fun hHeld => ?_)
  refine wpAnyH_take (i := 0) (v := .agg P'.V) rfl (by kernel_rfl) (by kernel_rfl) (by kernel_rfl) (fun _ _ _ h => h) (yieldsIf_load_mid rfl 38 (.tmp 3) rfl w.heap.size 0 rfl P'.V.toList _ (fun W h => h.1.range) Tryz.underlying38 rfl (by rw [Array.length_toList]; exact P'.i)) hHeld ?_
  refine wpAnyH_take (i := 1) (v := .int .i64 c) rfl (by kernel_rfl) (by kernel_rfl) (by kernel_rfl) (fun _ _ _ h => h) (Or.inl ⟨by rfl, fun W hW => by rfl⟩) hHeld ?_
  refine wpAnyH_take (i := 2) (v := .pointer (some ⟨u, 0, none⟩)) rfl (by kernel_rfl) (by kernel_rfl) (by kernel_rfl) (fun _ _ _ h => h) (Or.inl ⟨by rfl, fun W hW => by rfl⟩) hHeld ?_
  refine wpAnyH_ready (rs := [3]) (by kernel_rfl) (by decide) (AllReadyH.cons rfl (fun K' hK => ?_) AllReadyH.nil)
  go_simp
  refine (Hui.out _ (HU8.out.below (below_drewN (Below.refl W8.heap.size W8) 1))).mono ?_
  rintro _ w9 ⟨rfl, hU9, hm⟩
  have hm9 : Mut (only a) W8 w9 := (Mut.of_below (below_drewN (Below.refl W8.heap.size W8) 1)).trans hm
  have K49 := K48.out.kept hm9 hne
  have K29 := K28.out.kept hm9 (fun e => by have : w.heap.size + 1 = a := e; omega)
  have K39 := K38.out.kept hm9 (fun e => by have : w.heap.size + 2 = a := e; omega)
  have HM9 := Lib.hid ((Mut.of_below (S := only a) HB8.out).trans hm9)
  have HU9 := Lib.hid hU9
  clear hm hm9 hU9
  refine hK.out _ _ ⟨K49, K29⟩ (fun hHeld => ?_)
  clear hK
  refine wpAnyH_ready (rs := [4]) (by kernel_rfl) (by decide) (AllReadyH.cons rfl (fun K' hK => ?_) AllReadyH.nil)
  rw [if_pos (by rfl)]
  refine wp_store_row 38 (.tmp 6) (.tmp 163) rfl (w.heap.size + 1 + 1) P'.V rfl rfl 38 zero22 K39 P'.i (by rw [Pl.n]; rfl) P'.o ?_
  have HM10 := Lib.hid (HM9.out.row (show w.heap.size ≤ w.heap.size + 1 + 1 by omega) P'.V)
  have HU10 := Lib.hid (HU9.out.mut1 (Mut.rowAt w9 (w.heap.size + 1 + 1) P'.V) K39 (by omega) (by omega))
  have K310 := K39.row P'.V
  refine hK.out _ _ ⟨K49.rowFar (g := w.heap.size + 1 + 1) (by omega) P'.V, K29.rowFar (g := w.heap.size + 1 + 1) (by omega) P'.V⟩ (fun hHeld => ?_)
  clear hK
  refine wpAnyH_ready (rs := [5]) (by kernel_rfl) (by decide) (AllReadyH.cons rfl (fun K' hK => ?_) AllReadyH.nil)
  go_simp
  refine hK.out _ _ hHeld (fun hHeld => ?_)
  clear hK
  refine wpAnyH_ready (rs := [6]) (by kernel_rfl) (by decide) (AllReadyH.cons rfl (fun K' hK => ?_) AllReadyH.nil)
  go_simp
  refine hK.out _ _ hHeld (fun hHeld => ?_)
  clear hK
  refine wpAnyH_done (by kernel_rfl) ?_ _
  go_wp2_with fail
  refine bodyPost_ret (results_ctt (p := 6) (u := 7) (v := 8) (ty := 38) (by kernel_rfl) _ _ (w.heap.size + 1 + 1) 38 P'.V _ rfl K310 Tryz.underlying38 rfl P'.i) rfl ?_
  exact ⟨P', x', _, rfl, HR'.out, HI'.out, HPG.out, HU10.out, HM10.out⟩
theorem act_6_ok {w : World} {u a : Nat} {P : Pl} {x : US} (hR : Rl P x) (hI : x.Inv) (h3 : x.pg = 3) (hU : UsAt w u a x) (n : Int) (tx : List UInt8) (ht : tx.length ≤ 400) (kd : Int) (q0 : (kd == 0) = false) (q1 : (kd == 1) = false) (q2 : (kd == 2) = false) (q3 : (kd == 3) = false) (q4 : (kd == 4) = false) (q5 : (kd == 5) = false) (b : Bt) (hr : x.b.confirm = .ok b) : Calls Tryz.prog 12 #[.agg P.V, .pointer (some ⟨u, 0, none⟩), .agg #[.int .i64 kd, .int .i64 n, .string (bs tx)]] w fun e w' => ActOut w u a e w' := by
  have hbx := Lib.hid (box3 w P.V #[.int .i64 kd, .int .i64 n, .string (bs tx)])
  have hal := hU.al
  have hul := hU.ul
  have HU0 := Lib.hid hU
  have HI := Lib.hid hI
  have HR := Lib.hid hR
  have H3 := Lib.hid h3
  clear hU hI hR h3
  go_enter Tryz.func12, Tryz.ntmps12
  go_upto_region 1 with fail
  obtain ⟨hB, k1, k2, k3⟩ := hbx.out
  generalize (((w.alloc (.cells P.V 38)).alloc (.cells #[.int .i64 kd, .int .i64 n, .string (bs tx)] 41)).alloc (.cells #[.int .i64 0, .int .i64 0, .bool false, .int .i64 0, .int .i64 0, .int .i64 0, .int .i64 0, .bool false, .bool false, .int .i64 0, .int .i64 0, .string { data := #[] }, .int .i64 0, .int .i64 0, .string { data := #[] }, .string { data := #[] }, .string { data := #[] }, .int .i64 0, .int .i64 0, .string { data := #[] }, .string { data := #[] }, .bool false] 38)) = W at hB k1 k2 k3 ⊢
  have HU := Lib.hid (HU0.out.below hB)
  have HB := Lib.hid hB
  have K1 := Lib.hid k1
  have K2 := Lib.hid k2
  have K3 := Lib.hid k3
  have hg3 := k3.lt
  clear hB k1 k2 k3 hbx
  have a0 : W.cell? ⟨w.heap.size + 1, 0, none⟩ = some (.int .i64 kd) := K2.out.cell 0
  have a1 : W.cell? ⟨w.heap.size + 1, 1, none⟩ = some (.int .i64 n) := K2.out.cell 1
  have a2 : W.cell? ⟨w.heap.size + 1, 2, none⟩ = some (.string (bs tx)) := K2.out.cell 2
  have hact := fun W => ract4_any P.b (HR.out.b ▸ HI.out.ok.b) 0 W
  rw [HR.out.b, hr, ← HR.out.b] at hact
  have Hact := Lib.hid (fun W => (show Calls Tryz.prog 36 #[.agg P.b.V, .int .i64 4, .int .i64 0] W fun r w' => r = .returned (.tuple #[.agg b.V, .int .i64 0]) ∧ Below W.heap.size W w' from hact W))
  have hR1 : Rl { P with b := b } (x.on (x.b.confirm)) := (HR.out.confirm HI.out).2 b hr
  have hi1 : (x.on (x.b.confirm)).Inv := HI.out.confirm
  have hpg : (x.on (x.b.confirm)).pg = 3 := by rw [US.pg_on, H3.out]
  have hui := fun W (hW : UsAt W u a x) => uconfirm_any hW HI.out.ok
  obtain ⟨x', hx'⟩ : ∃ x', x' = x.on (x.b.confirm) := ⟨_, rfl⟩
  obtain ⟨P', hP'⟩ : ∃ P' : Pl, P' = { P with b := b } := ⟨_, rfl⟩
  obtain ⟨c, hc⟩ : ∃ c : Int, c = 0 := ⟨_, rfl⟩
  rw [← hx'] at hR1 hi1 hpg hui
  rw [← hP'] at hR1
  rw [hr, show BR.E (.ok b) = c from hc.symm] at hui
  have hset : overA P.V 1 b.V.toList = P'.V := by rw [hP']; exact P.set_b b
  have HS := Lib.hid hset
  clear hset
  have Hui := Lib.hid hui
  have HR' := Lib.hid hR1
  have HI' := Lib.hid hi1
  have HPG := Lib.hid hpg
  have HP' := Lib.hid hP'
  have HC := Lib.hid hc
  clear hact hui hR1 hi1 hpg hP' hc hx' hr
  go_wp2_with (first
    | (refine wpList_load_blk rfl 32 (.tmp 154) rfl w.heap.size 1 rfl P.V P.b.V 38 _ K1.out P.at_b Tryz.underlying32 rfl P.b.V_i ?_)
    | fail)
  refine (Hact.out _).mono ?_
  rintro _ w7 ⟨rfl, hB⟩
  have hba : Below w7.heap.size w7 (w7.alloc (.cells #[.int .i64 0, .bool false, .int .i64 0, .int .i64 0, .int .i64 0, .int .i64 0, .bool false, .bool false] 32)) := (Below.refl _ _).alloc (Nat.le_refl _) _
  have K47 := Lib.hid (Blk.new w7 #[.int .i64 0, .bool false, .int .i64 0, .int .i64 0, .int .i64 0, .int .i64 0, .bool false, .bool false] 32)
  have hs7 := (HB.out.trans (hB.mono HB.out.size)).size
  have hw78 := hB.size
  have hlt1 := K1.out.lt
  have hb7 : Below w7.heap.size w7 ((w7.alloc (.cells #[.int .i64 0, .bool false, .int .i64 0, .int .i64 0, .int .i64 0, .int .i64 0, .bool false, .bool false] 32)).setRow w7.heap.size b.V) := below_setRow hba (Nat.le_refl _) b.V
  have hB2 := hB.trans (hb7.mono hB.size)
  have HB7 := Lib.hid (HB.out.trans (hB2.mono HB.out.size))
  have HU7 := Lib.hid (HU.out.below hB2)
  have K17 := Lib.hid (K1.out.below hB2)
  have K27 := Lib.hid (K2.out.below hB2)
  have K37 := Lib.hid (K3.out.below hB2)
  have K57 := Lib.hid (K47.out.row b.V)
  clear hB hba hb7 hB2
  go_upto_region 31 with (first
    | (refine wpList_store_row rfl 32 (.tmp 23) (.tmp 157) rfl w7.heap.size b.V rfl rfl 32 _ K47.out b.V_i (by rw [b.V_size]; rfl) b.V_o ?_)
    | fail)
  clear K47
  generalize ((w7.alloc (.cells #[.int .i64 0, .bool false, .int .i64 0, .int .i64 0, .int .i64 0, .int .i64 0, .bool false, .bool false] 32)).setRow w7.heap.size b.V) = W7 at HB7 HU7 K17 K27 K37 K57 ⊢
  have HB8 := Lib.hid (below_setRow HB7.out (Nat.le_refl _) P'.V)
  have HU8 := Lib.hid (HU7.out.mut1 (Mut.rowAt W7 w.heap.size P'.V) K17.out (by omega) (by omega))
  have K48 := Lib.hid (K17.out.row P'.V)
  have K28 := Lib.hid (K27.out.rowFar (g := w.heap.size) (by omega) P'.V)
  have K38 := Lib.hid (K37.out.rowFar (g := w.heap.size) (by omega) P'.V)
  go_upto_region 32 with (first
    | (refine wpList_load_row rfl 32 (.tmp 23) rfl w7.heap.size rfl 32 b.V (0, 0) _ K57.out Tryz.underlying32 rfl b.V_i ?_)
    | (refine wpList_store_blk rfl 32 (.tmp 162) (.tmp 161) rfl w.heap.size 1 b.V rfl rfl 38 P.V K17.out b.V_i (by rw [P.n, b.V_size]; omega) b.V_o ?_; rw [HS.out])
    | fail)
  generalize (W7.setRow w.heap.size P'.V) = W8 at HB8 HU8 K28 K38 K48 ⊢
  have hce := HC.out
  subst hce
  have hh : w.heap.size < W8.heap.size := K48.out.lt
  have hne : ¬ only a w.heap.size := fun e => by have : w.heap.size = a := e; omega
  refine wp_region_held_drew (S := fun W => Blk W w.heap.size P'.V 38 ∧ Blk W (w.heap.size + 1) #[.int .i64 kd, .int .i64 n, .string (bs tx)] 41) (by kernel_rfl) ⟨K48.out, K28.out⟩ (fun hHeld => ?_)
  refine wpAnyH_take (i := 0) (v := .agg P'.V) rfl (by kernel_rfl) (by kernel_rfl) (by kernel_rfl) (fun _ _ _ h => h) (yieldsIf_load_mid rfl 38 (.tmp 3) rfl w.heap.size 0 rfl P'.V.toList _ (fun W h => h.1.range) Tryz.underlying38 rfl (by rw [Array.length_toList]; exact P'.i)) hHeld ?_
  refine wpAnyH_take (i := 1) (v := .int .i64 0) rfl (by kernel_rfl) (by kernel_rfl) (by kernel_rfl) (fun _ _ _ h => h) (Or.inl ⟨by rfl, fun W hW => by rfl⟩) hHeld ?_
  refine wpAnyH_take (i := 2) (v := .pointer (some ⟨u, 0, none⟩)) rfl (by kernel_rfl) (by kernel_rfl) (by kernel_rfl) (fun _ _ _ h => h) (Or.inl ⟨by rfl, fun W hW => by rfl⟩) hHeld ?_
  refine wpAnyH_ready (rs := [3]) (by kernel_rfl) (by decide) (AllReadyH.cons rfl (fun K' hK => ?_) AllReadyH.nil)
  go_simp
  refine (Hui.out _ (HU8.out.below (below_drewN (Below.refl W8.heap.size W8) 1))).mono ?_
  rintro _ w9 ⟨rfl, hU9, hm⟩
  have hm9 : Mut (only a) W8 w9 := (Mut.of_below (below_drewN (Below.refl W8.heap.size W8) 1)).trans hm
  have K49 := K48.out.kept hm9 hne
  have K29 := K28.out.kept hm9 (fun e => by have : w.heap.size + 1 = a := e; omega)
  have K39 := K38.out.kept hm9 (fun e => by have : w.heap.size + 2 = a := e; omega)
  have HM9 := Lib.hid ((Mut.of_below (S := only a) HB8.out).trans hm9)
  have HU9 := Lib.hid hU9
  clear hm hm9 hU9
  refine hK.out _ _ ⟨K49, K29⟩ (fun hHeld => ?_)
  clear hK
  refine wpAnyH_ready (rs := [4]) (by kernel_rfl) (by decide) (AllReadyH.cons rfl (fun K' hK => ?_) AllReadyH.nil)
  rw [if_pos (by rfl)]
  refine wp_store_row 38 (.tmp 6) (.tmp 163) rfl (w.heap.size + 1 + 1) P'.V rfl rfl 38 zero22 K39 P'.i (by rw [Pl.n]; rfl) P'.o ?_
  have HM10 := Lib.hid (HM9.out.row (show w.heap.size ≤ w.heap.size + 1 + 1 by omega) P'.V)
  have HU10 := Lib.hid (HU9.out.mut1 (Mut.rowAt w9 (w.heap.size + 1 + 1) P'.V) K39 (by omega) (by omega))
  have K310 := K39.row P'.V
  refine hK.out _ _ ⟨K49.rowFar (g := w.heap.size + 1 + 1) (by omega) P'.V, K29.rowFar (g := w.heap.size + 1 + 1) (by omega) P'.V⟩ (fun hHeld => ?_)
  clear hK
  refine wpAnyH_ready (rs := [5]) (by kernel_rfl) (by decide) (AllReadyH.cons rfl (fun K' hK => ?_) AllReadyH.nil)
  go_simp
  refine hK.out _ _ hHeld (fun hHeld => ?_)
  clear hK
  refine wpAnyH_ready (rs := [6]) (by kernel_rfl) (by decide) (AllReadyH.cons rfl (fun K' hK => ?_) AllReadyH.nil)
  go_simp
  refine hK.out _ _ hHeld (fun hHeld => ?_)
  clear hK
  refine wpAnyH_done (by kernel_rfl) ?_ _
  go_wp2_with fail
  refine bodyPost_ret (results_ctt (p := 6) (u := 7) (v := 8) (ty := 38) (by kernel_rfl) _ _ (w.heap.size + 1 + 1) 38 P'.V _ rfl K310 Tryz.underlying38 rfl P'.i) rfl ?_
  exact ⟨P', x', _, rfl, HR'.out, HI'.out, HPG.out, HU10.out, HM10.out⟩
end Go.Proofs.YticnmogeknlmeaaGreatDoor.B
