/- Helper: something is done to a plain picture, and to the updater; walked. No condition. -/
import Derived.Test.YticnmogeknlmeaaGreatDoorNZt
import Derived.Test.YticnmogeknlmeaaGreatDoorN14
import Derived.Test.YticnmogeknlmeaaGreatDoorN04
namespace Go.Proofs.YticnmogeknlmeaaGreatDoor.B
open Go.RowKit Go.Maps Go.Proofs.YticnmogeknlmeaaGreatDoorW.PrintWords Go.Proofs.YticnmogeknlmeaaGreatDoor.Later
set_option maxRecDepth 100000
set_option maxHeartbeats 4000000
theorem results_ctt {P : Program} {fn : Func} {p u v : Tmp} {ty : TypeId} (h : fn.results = #[.cell p ty, .tmp u, .tmp v]) (tmps : Array Value) (w : World) (g : Nat) (t : TypeId) (cs : Array Value) (d : TypeDesc) (hp : tmps.getD p undef = .pointer (some ⟨g, 0, none⟩)) (hg : w.heap[g]? = some (.cells cs t (0, 0)))
    (hu : P.underlying ty = some d) (hd : (match d with | .struct _ | .array _ _ => true | _ => false) = true) (hi : (P.info? ty).map (·.size) = some cs.size) :
    (results fn tmps).run P w = .ok (.tuple #[.agg cs, tmps.getD u undef, tmps.getD v undef]) w := by
  have hp' : tmps[p]?.getD undef = .pointer (some ⟨g, 0, none⟩) := by simpa using hp
  simp [results, h, hp', asAddr, run_loadVar_row w g t ty cs (0, 0) d hg hu hd hi]
theorem box3 (w : World) (A B : Array Value) : Below w.heap.size w (((w.alloc (.cells A 38)).alloc (.cells B 41)).alloc (.cells #[.int .i64 0, .int .i64 0, .bool false, .int .i64 0, .int .i64 0, .int .i64 0, .int .i64 0, .bool false, .bool false, .int .i64 0, .int .i64 0, .string { data := #[] }, .int .i64 0, .int .i64 0, .string { data := #[] }, .string { data := #[] }, .string { data := #[] }, .int .i64 0, .int .i64 0, .string { data := #[] }, .string { data := #[] }, .bool false] 38)) ∧ Blk (((w.alloc (.cells A 38)).alloc (.cells B 41)).alloc (.cells #[.int .i64 0, .int .i64 0, .bool false, .int .i64 0, .int .i64 0, .int .i64 0, .int .i64 0, .bool false, .bool false, .int .i64 0, .int .i64 0, .string { data := #[] }, .int .i64 0, .int .i64 0, .string { data := #[] }, .string { data := #[] }, .string { data := #[] }, .int .i64 0, .int .i64 0, .string { data := #[] }, .string { data := #[] }, .bool false] 38)) w.heap.size A 38 ∧ Blk (((w.alloc (.cells A 38)).alloc (.cells B 41)).alloc (.cells #[.int .i64 0, .int .i64 0, .bool false, .int .i64 0, .int .i64 0, .int .i64 0, .int .i64 0, .bool false, .bool false, .int .i64 0, .int .i64 0, .string { data := #[] }, .int .i64 0, .int .i64 0, .string { data := #[] }, .string { data := #[] }, .string { data := #[] }, .int .i64 0, .int .i64 0, .string { data := #[] }, .string { data := #[] }, .bool false] 38)) (w.heap.size + 1) B 41 ∧ Blk (((w.alloc (.cells A 38)).alloc (.cells B 41)).alloc (.cells #[.int .i64 0, .int .i64 0, .bool false, .int .i64 0, .int .i64 0, .int .i64 0, .int .i64 0, .bool false, .bool false, .int .i64 0, .int .i64 0, .string { data := #[] }, .int .i64 0, .int .i64 0, .string { data := #[] }, .string { data := #[] }, .string { data := #[] }, .int .i64 0, .int .i64 0, .string { data := #[] }, .string { data := #[] }, .bool false] 38)) (w.heap.size + 2) zero22 38 := by
  have h1 := (Below.refl w.heap.size w).alloc (Nat.le_refl _) (.cells A 38)
  have e : (w.alloc (.cells A 38)).heap.size = w.heap.size + 1 := by simp
  have h2 := h1.alloc (by rw [e]; omega) (.cells B 41)
  have e2 : ((w.alloc (.cells A 38)).alloc (.cells B 41)).heap.size = w.heap.size + 2 := by simp
  refine ⟨h2.alloc (by rw [e2]; omega) _, ((Blk.new w A 38).below ((Below.refl _ _).alloc (Nat.le_refl _) _)).below ((Below.refl _ _).alloc (Nat.le_refl _) _), ?_, ?_⟩
  · have := (Blk.new (w.alloc (.cells A 38)) B 41).below ((Below.refl _ _).alloc (Nat.le_refl _) (.cells #[.int .i64 0, .int .i64 0, .bool false, .int .i64 0, .int .i64 0, .int .i64 0, .int .i64 0, .bool false, .bool false, .int .i64 0, .int .i64 0, .string { data := #[] }, .int .i64 0, .int .i64 0, .string { data := #[] }, .string { data := #[] }, .string { data := #[] }, .int .i64 0, .int .i64 0, .string { data := #[] }, .string { data := #[] }, .bool false] 38))
    rw [e] at this
    exact this
  · have := Blk.new ((w.alloc (.cells A 38)).alloc (.cells B 41)) zero22 38
    rw [e2] at this
    exact this
theorem Mut.rowAt (w : World) (g : Nat) (cs : Array Value) : Mut (only g) w (w.setRow g cs) := by
  have hs : (w.setRow g cs).heap.size = w.heap.size := by simp [World.setRow]
  exact ⟨rfl, rfl, rfl, by omega, fun i _ hne => setRow_other w g i cs (fun e => hne e)⟩
theorem Mut.row {S : Nat → Prop} {w w1 : World} (h : Mut S w w1) {g : Nat} (hg : w.heap.size ≤ g) (cs : Array Value) : Mut S w (w1.setRow g cs) := by
  have hs : (w1.setRow g cs).heap.size = w1.heap.size := by simp [World.setRow]
  exact ⟨h.os, h.tape, h.output, by have := h.size; omega, fun i hi hne => (setRow_other w1 g i cs (by omega)).trans (h.block i hi hne)⟩
/-- What comes of an act: a picture, and what there is. -/
def ActOut (w : World) (u a : Nat) (e : Ending) (w' : World) : Prop :=
  ∃ (P' : Pl) (x' : US) (c : Int), e = .returned (.tuple #[.agg P'.V, .int .i64 c, .int .i64 c]) ∧ Rl P' x' ∧ x'.Inv ∧ x'.pg = 3 ∧ UsAt w' u a x' ∧ Mut (only a) w w'
theorem act_0 {w : World} {u a : Nat} {P : Pl} {x : US} (hR : Rl P x) (hI : x.Inv) (h3 : x.pg = 3) (hU : UsAt w u a x) (n : Int) (tx : List UInt8) (ht : tx.length ≤ 400) : Calls Tryz.prog 12 #[.agg P.V, .pointer (some ⟨u, 0, none⟩), .agg #[.int .i64 0, .int .i64 n, .string (bs tx)]] w fun e w' => ActOut w u a e w' := by
  have hbx := Lib.hid (box3 w P.V #[.int .i64 0, .int .i64 n, .string (bs tx)])
  have hal := hU.al
  have hul := hU.ul
  have HU0 := Lib.hid hU
  have HI := Lib.hid hI
  have HR := Lib.hid hR
  have H3 := Lib.hid h3
  clear hU hI hR h3
  go_enter Tryz.func12, Tryz.ntmps12
  go_upto_region 1 with fail
  obtain ⟨hB, k1, k2, k3⟩ := hbx.out
  generalize (((w.alloc (.cells P.V 38)).alloc (.cells #[.int .i64 0, .int .i64 n, .string (bs tx)] 41)).alloc (.cells #[.int .i64 0, .int .i64 0, .bool false, .int .i64 0, .int .i64 0, .int .i64 0, .int .i64 0, .bool false, .bool false, .int .i64 0, .int .i64 0, .string { data := #[] }, .int .i64 0, .int .i64 0, .string { data := #[] }, .string { data := #[] }, .string { data := #[] }, .int .i64 0, .int .i64 0, .string { data := #[] }, .string { data := #[] }, .bool false] 38)) = W at hB k1 k2 k3 ⊢
  have HU := Lib.hid (HU0.out.below hB)
  have HB := Lib.hid hB
  have K1 := Lib.hid k1
  have K2 := Lib.hid k2
  have K3 := Lib.hid k3
  have hg3 := k3.lt
  clear hB k1 k2 k3 hbx
  have a0 : W.cell? ⟨w.heap.size + 1, 0, none⟩ = some (.int .i64 0) := K2.out.cell 0
  have a1 : W.cell? ⟨w.heap.size + 1, 1, none⟩ = some (.int .i64 n) := K2.out.cell 1
  have a2 : W.cell? ⟨w.heap.size + 1, 2, none⟩ = some (.string (bs tx)) := K2.out.cell 2
  obtain ⟨tl, htl⟩ : ∃ tl, tl = tx := ⟨_, rfl⟩
  have hlen : tl.length < 4294967281 := by rw [htl]; omega
  rw [← htl] at a2
  clear htl
  have hinst := fun W => pins_any P (HR.out.b ▸ HI.out.ok.b) (by rw [HR.out.pg, H3.out]; omega) tl hlen W
  have hin := HR.out.install tl
  have hi1 := HI.out.install tl
  have hpg : (x.install tl).2.pg = 3 := by
    have := H3.out
    unfold US.install
    split
    · exact this
    · split
      · exact this
      · split
        · exact this
        · exact this
  have hui := fun W (hW : UsAt W u a x) => uinst_any hW HI.out.ok tl hlen (fun m hm => parse_ok hm)
  rw [hin.1] at hinst
  obtain ⟨P', hP'⟩ : ∃ P', P' = (P.install tl).2 := ⟨_, rfl⟩
  obtain ⟨x', hx'⟩ : ∃ x', x' = (x.install tl).2 := ⟨_, rfl⟩
  obtain ⟨c, hc⟩ : ∃ c, c = (x.install tl).1 := ⟨_, rfl⟩
  rw [← hP', ← hc] at hinst
  rw [← hx', ← hc] at hui
  rw [← hP', ← hx'] at hin
  rw [← hx'] at hi1 hpg
  have Hinst := Lib.hid hinst
  have Hui := Lib.hid hui
  have HR' := Lib.hid hin.2
  have HI' := Lib.hid hi1
  have HPG := Lib.hid hpg
  clear hinst hui hin hi1 hpg hP' hx' hc
  go_wp2_with (first
    | (refine wpList_load_row rfl 38 (.tmp 3) rfl w.heap.size rfl 38 P.V (0, 0) _ K1.out Tryz.underlying38 rfl P.i ?_)
    | fail)
  refine (Hinst.out _).mono ?_
  rintro _ w7 ⟨rfl, hB⟩
  have HB7 := Lib.hid (HB.out.trans (hB.mono HB.out.size))
  have HU7 := Lib.hid (HU.out.below hB)
  have K37 := Lib.hid (K3.out.below hB)
  have hs7 := hB.size
  clear hB
  clear a0 a1 a2
  have hba : Below w7.heap.size w7 (w7.alloc (.cells #[.int .i64 0, .int .i64 0, .bool false, .int .i64 0, .int .i64 0, .int .i64 0, .int .i64 0, .bool false, .bool false, .int .i64 0, .int .i64 0, .string { data := #[] }, .int .i64 0, .int .i64 0, .string { data := #[] }, .string { data := #[] }, .string { data := #[] }, .int .i64 0, .int .i64 0, .string { data := #[] }, .string { data := #[] }, .bool false] 38)) := (Below.refl _ _).alloc (Nat.le_refl _) _
  have K47 := Lib.hid (show Blk (w7.alloc (.cells #[.int .i64 0, .int .i64 0, .bool false, .int .i64 0, .int .i64 0, .int .i64 0, .int .i64 0, .bool false, .bool false, .int .i64 0, .int .i64 0, .string { data := #[] }, .int .i64 0, .int .i64 0, .string { data := #[] }, .string { data := #[] }, .string { data := #[] }, .int .i64 0, .int .i64 0, .string { data := #[] }, .string { data := #[] }, .bool false] 38)) w7.heap.size zero22 38 from Blk.new w7 zero22 38)
  have HB8 := Lib.hid (below_setRow (HB7.out.trans (hba.mono HB7.out.size)) HB7.out.size P'.V)
  have h8 : Below w7.heap.size w7 ((w7.alloc (.cells #[.int .i64 0, .int .i64 0, .bool false, .int .i64 0, .int .i64 0, .int .i64 0, .int .i64 0, .bool false, .bool false, .int .i64 0, .int .i64 0, .string { data := #[] }, .int .i64 0, .int .i64 0, .string { data := #[] }, .string { data := #[] }, .string { data := #[] }, .int .i64 0, .int .i64 0, .string { data := #[] }, .string { data := #[] }, .bool false] 38)).setRow w7.heap.size P'.V) := below_setRow hba (Nat.le_refl _) P'.V
  have HU8 := Lib.hid (HU7.out.below h8)
  have K38 := Lib.hid (K37.out.below h8)
  have K48 := Lib.hid (K47.out.row P'.V)
  clear h8 hba
  go_upto_region 8 with (first
    | (refine wpList_store_row rfl 38 (.tmp 10) (.tmp 50) rfl w7.heap.size P'.V rfl rfl 38 zero22 K47.out P'.i (by rw [P'.n]; rfl) P'.o ?_)
    | fail)
  generalize ((w7.alloc (.cells #[.int .i64 0, .int .i64 0, .bool false, .int .i64 0, .int .i64 0, .int .i64 0, .int .i64 0, .bool false, .bool false, .int .i64 0, .int .i64 0, .string { data := #[] }, .int .i64 0, .int .i64 0, .string { data := #[] }, .string { data := #[] }, .string { data := #[] }, .int .i64 0, .int .i64 0, .string { data := #[] }, .string { data := #[] }, .bool false] 38)).setRow w7.heap.size P'.V) = W8 at HB8 HU8 K38 K48 ⊢
  have hh : w7.heap.size < W8.heap.size := K48.out.lt
  have hne : ¬ only a w7.heap.size := fun e => by have : w7.heap.size = a := e; omega
  refine wp_region_held_drew (S := fun W => Blk W w7.heap.size P'.V 38 ∧ True) (by kernel_rfl) ⟨K48.out, trivial⟩ (fun hHeld => ?_)
  refine wpAnyH_take (i := 0) (v := .agg P'.V) rfl (by kernel_rfl) (by kernel_rfl) (by kernel_rfl) (fun _ _ _ h => h) (yieldsIf_load_mid rfl 38 (.tmp 10) rfl w7.heap.size 0 rfl P'.V.toList _ (fun W h => h.1.range) Tryz.underlying38 rfl (by rw [Array.length_toList]; exact P'.i)) hHeld ?_
  refine wpAnyH_take (i := 1) (v := .int .i64 c) rfl (by kernel_rfl) (by kernel_rfl) (by kernel_rfl) (fun _ _ _ h => h) (Or.inl ⟨by rfl, fun W hW => by rfl⟩) hHeld ?_
  refine wpAnyH_take (i := 2) (v := .pointer (some ⟨u, 0, none⟩)) rfl (by kernel_rfl) (by kernel_rfl) (by kernel_rfl) (fun _ _ _ h => h) (Or.inl ⟨by rfl, fun W hW => by rfl⟩) hHeld ?_
  refine wpAnyH_take (i := 3) (v := .string (bs tl)) rfl (by kernel_rfl) (by kernel_rfl) (by kernel_rfl) (fun _ _ _ h => h) (Or.inl ⟨by rfl, fun W hW => by rfl⟩) hHeld ?_
  refine wpAnyH_ready (rs := [4]) (by kernel_rfl) (by decide) (AllReadyH.cons rfl (fun K' hK => ?_) AllReadyH.nil)
  go_simp
  refine (Hui.out _ (HU8.out.below (below_drewN (Below.refl W8.heap.size W8) 1))).mono ?_
  rintro _ w9 ⟨rfl, hU9, hm⟩
  have hm9 : Mut (only a) W8 w9 := (Mut.of_below (below_drewN (Below.refl W8.heap.size W8) 1)).trans hm
  have K49 := K48.out.kept hm9 hne
  have K39 := K38.out.kept hm9 (fun e => by have : w.heap.size + 2 = a := e; omega)
  have HM9 := Lib.hid ((Mut.of_below (S := only a) HB8.out).trans hm9)
  have HU9 := Lib.hid hU9
  clear hm hm9 hU9
  refine hK.out _ _ ⟨K49, trivial⟩ (fun hHeld => ?_)
  clear hK
  refine wpAnyH_ready (rs := [5]) (by kernel_rfl) (by decide) (AllReadyH.cons rfl (fun K' hK => ?_) AllReadyH.nil)
  rw [if_pos (by rfl)]
  refine wp_store_row 38 (.tmp 6) (.tmp 52) rfl (w.heap.size + 1 + 1) P'.V rfl rfl 38 zero22 K39 P'.i (by rw [Pl.n]; rfl) P'.o ?_
  have HM10 := Lib.hid (HM9.out.row (show w.heap.size ≤ w.heap.size + 1 + 1 by omega) P'.V)
  have HU10 := Lib.hid (HU9.out.mut1 (Mut.rowAt w9 (w.heap.size + 1 + 1) P'.V) K39 (by omega) (by omega))
  have K310 := K39.row P'.V
  refine hK.out _ _ ⟨K49.rowFar (g := w.heap.size + 1 + 1) (by omega) P'.V, trivial⟩ (fun hHeld => ?_)
  clear hK
  refine wpAnyH_ready (rs := [6]) (by kernel_rfl) (by decide) (AllReadyH.cons rfl (fun K' hK => ?_) AllReadyH.nil)
  go_simp
  refine hK.out _ _ hHeld (fun hHeld => ?_)
  clear hK
  refine wpAnyH_ready (rs := [7]) (by kernel_rfl) (by decide) (AllReadyH.cons rfl (fun K' hK => ?_) AllReadyH.nil)
  go_simp
  refine hK.out _ _ hHeld (fun hHeld => ?_)
  clear hK
  refine wpAnyH_done (by kernel_rfl) ?_ _
  go_wp2_with fail
  refine bodyPost_ret (results_ctt (p := 6) (u := 7) (v := 8) (ty := 38) (by kernel_rfl) _ _ (w.heap.size + 1 + 1) 38 P'.V _ rfl K310 Tryz.underlying38 rfl P'.i) rfl ?_
  exact ⟨P', x', c, rfl, HR'.out, HI'.out, HPG.out, HU10.out, HM10.out⟩
theorem act_1 {w : World} {u a : Nat} {P : Pl} {x : US} (hR : Rl P x) (hI : x.Inv) (h3 : x.pg = 3) (hU : UsAt w u a x) (n : Int) (tx : List UInt8) (ht : tx.length ≤ 400) : Calls Tryz.prog 12 #[.agg P.V, .pointer (some ⟨u, 0, none⟩), .agg #[.int .i64 1, .int .i64 n, .string (bs tx)]] w fun e w' => ActOut w u a e w' := by
  have hbx := Lib.hid (box3 w P.V #[.int .i64 1, .int .i64 n, .string (bs tx)])
  have hal := hU.al
  have hul := hU.ul
  have HU0 := Lib.hid hU
  have HI := Lib.hid hI
  have HR := Lib.hid hR
  have H3 := Lib.hid h3
  clear hU hI hR h3
  go_enter Tryz.func12, Tryz.ntmps12
  go_upto_region 1 with fail
  obtain ⟨hB, k1, k2, k3⟩ := hbx.out
  generalize (((w.alloc (.cells P.V 38)).alloc (.cells #[.int .i64 1, .int .i64 n, .string (bs tx)] 41)).alloc (.cells #[.int .i64 0, .int .i64 0, .bool false, .int .i64 0, .int .i64 0, .int .i64 0, .int .i64 0, .bool false, .bool false, .int .i64 0, .int .i64 0, .string { data := #[] }, .int .i64 0, .int .i64 0, .string { data := #[] }, .string { data := #[] }, .string { data := #[] }, .int .i64 0, .int .i64 0, .string { data := #[] }, .string { data := #[] }, .bool false] 38)) = W at hB k1 k2 k3 ⊢
  have HU := Lib.hid (HU0.out.below hB)
  have HB := Lib.hid hB
  have K1 := Lib.hid k1
  have K2 := Lib.hid k2
  have K3 := Lib.hid k3
  have hg3 := k3.lt
  clear hB k1 k2 k3 hbx
  have a0 : W.cell? ⟨w.heap.size + 1, 0, none⟩ = some (.int .i64 1) := K2.out.cell 0
  have a1 : W.cell? ⟨w.heap.size + 1, 1, none⟩ = some (.int .i64 n) := K2.out.cell 1
  have a2 : W.cell? ⟨w.heap.size + 1, 2, none⟩ = some (.string (bs tx)) := K2.out.cell 2
  have hq : bits .and .i64 n 7 = n % 8 := and_powD 3 (by decide) 7 n rfl
  obtain ⟨k, hk⟩ : ∃ k : Nat, k = (n % 8).toNat := ⟨_, rfl⟩
  have hband : bits .and .i64 n 7 = (k : Int) := by rw [hq]; omega
  have hk8 : k < 8 := by omega
  obtain ⟨s, hs⟩ : ∃ s, s = tx.take (4 * 64) := ⟨_, rfl⟩
  have hsl : s.length ≤ 256 := by rw [hs, List.length_take]; omega
  obtain ⟨tl, htl⟩ : ∃ tl, tl = manT ⟨1 + k, s.length, shaL s⟩ := ⟨_, rfl⟩
  have hlen : tl.length < 4294967281 := by rw [htl]; exact manT_len _ (by show 1 + k < _; omega) (by show s.length < _; omega) rfl
  have Hfew := Lib.hid (fun W => (show Calls Tryz.prog 8 #[.string (bs tx), .int .i64 4] W fun e w' => e = .returned (.string (bs s)) ∧ W = w' from by
    rw [hs]
    exact (few_any tx 4 (by decide) W).mono (fun _ _ h => ⟨h.1, h.2.symm⟩)))
  have Htx := Lib.hid (fun W => (show Calls Tryz.prog 15 #[.int .i64 (1 + (k : Int)), .string (bs s)] W fun e w' => e = .returned (.string (bs tl)) ∧ Below W.heap.size W w' from by
    have := ltext_any (1 + k) s (by omega) (by omega) W
    rw [show (((1 + k : Nat)) : Int) = 1 + (k : Int) by omega] at this
    rw [htl]
    exact this))
  have k0 : W.cell? ⟨w.heap.size, 0, none⟩ = some (.int .i64 3) := by rw [K1.out.cell, P.c0, HR.out.pg, H3.out]; rfl
  clear hq hk hs htl
  go_upto_region 6 with fail
  have l1 := fun nn => later_cell a1 nn
  have l2 := fun nn => later_cell a2 nn
  have l0 := fun nn => later_cell k0 nn
  clear a0 a1 a2 k0
  refine wp_region_later (by kernel_rfl) (by kernel_rfl) ?_
  repeat go_big_quiet_step (fail)
  go_big_quiet_step (with_reducible exact calls_later_same (fun w1 _ => Hfew.out w1) _)
  repeat go_big_quiet_step (fail)
  go_big_quiet_step (with_reducible exact calls_later (fun w1 _ => Htx.out w1) _)
  repeat go_big_quiet_step (fail)
  refine wpQuiet_nil ?_
  intro w5 hw5
  have hb5 := later_of hw5
  have HB5 := Lib.hid (HB.out.trans (hb5.mono HB.out.size))
  have HU5 := Lib.hid (HU.out.below hb5)
  have K15 := Lib.hid (K1.out.below hb5)
  have K35 := Lib.hid (K3.out.below hb5)
  have hg5 := hb5.size
  clear hw5 hb5 l0 l1 l2 HB HU K1 K2 K3
  have HB := HB5
  have HU := HU5
  have K1 := K15
  have K3 := K35
  clear HB5 HU5 K15 K35
  have hinst := fun W => pins_any P (HR.out.b ▸ HI.out.ok.b) (by rw [HR.out.pg, H3.out]; omega) tl hlen W
  have hin := HR.out.install tl
  have hi1 := HI.out.install tl
  have hpg : (x.install tl).2.pg = 3 := by
    have := H3.out
    unfold US.install
    split
    · exact this
    · split
      · exact this
      · split
        · exact this
        · exact this
  have hui := fun W (hW : UsAt W u a x) => uinst_any hW HI.out.ok tl hlen (fun m hm => parse_ok hm)
  rw [hin.1] at hinst
  obtain ⟨P', hP'⟩ : ∃ P', P' = (P.install tl).2 := ⟨_, rfl⟩
  obtain ⟨x', hx'⟩ : ∃ x', x' = (x.install tl).2 := ⟨_, rfl⟩
  obtain ⟨c, hc⟩ : ∃ c, c = (x.install tl).1 := ⟨_, rfl⟩
  rw [← hP', ← hc] at hinst
  rw [← hx', ← hc] at hui
  rw [← hP', ← hx'] at hin
  rw [← hx'] at hi1 hpg
  have Hinst := Lib.hid hinst
  have Hui := Lib.hid hui
  have HR' := Lib.hid hin.2
  have HI' := Lib.hid hi1
  have HPG := Lib.hid hpg
  clear hinst hui hin hi1 hpg hP' hx' hc
  go_wp2_with (first
    | (refine wpList_load_row rfl 38 (.tmp 3) rfl w.heap.size rfl 38 P.V (0, 0) _ K1.out Tryz.underlying38 rfl P.i ?_)
    | fail)
  refine (Hinst.out _).mono ?_
  rintro _ w7 ⟨rfl, hB⟩
  have HB7 := Lib.hid (HB.out.trans (hB.mono HB.out.size))
  have HU7 := Lib.hid (HU.out.below hB)
  have K37 := Lib.hid (K3.out.below hB)
  have hs7 := hB.size
  clear hB
  skip
  have hba : Below w7.heap.size w7 (w7.alloc (.cells #[.int .i64 0, .int .i64 0, .bool false, .int .i64 0, .int .i64 0, .int .i64 0, .int .i64 0, .bool false, .bool false, .int .i64 0, .int .i64 0, .string { data := #[] }, .int .i64 0, .int .i64 0, .string { data := #[] }, .string { data := #[] }, .string { data := #[] }, .int .i64 0, .int .i64 0, .string { data := #[] }, .string { data := #[] }, .bool false] 38)) := (Below.refl _ _).alloc (Nat.le_refl _) _
  have K47 := Lib.hid (show Blk (w7.alloc (.cells #[.int .i64 0, .int .i64 0, .bool false, .int .i64 0, .int .i64 0, .int .i64 0, .int .i64 0, .bool false, .bool false, .int .i64 0, .int .i64 0, .string { data := #[] }, .int .i64 0, .int .i64 0, .string { data := #[] }, .string { data := #[] }, .string { data := #[] }, .int .i64 0, .int .i64 0, .string { data := #[] }, .string { data := #[] }, .bool false] 38)) w7.heap.size zero22 38 from Blk.new w7 zero22 38)
  have HB8 := Lib.hid (below_setRow (HB7.out.trans (hba.mono HB7.out.size)) HB7.out.size P'.V)
  have h8 : Below w7.heap.size w7 ((w7.alloc (.cells #[.int .i64 0, .int .i64 0, .bool false, .int .i64 0, .int .i64 0, .int .i64 0, .int .i64 0, .bool false, .bool false, .int .i64 0, .int .i64 0, .string { data := #[] }, .int .i64 0, .int .i64 0, .string { data := #[] }, .string { data := #[] }, .string { data := #[] }, .int .i64 0, .int .i64 0, .string { data := #[] }, .string { data := #[] }, .bool false] 38)).setRow w7.heap.size P'.V) := below_setRow hba (Nat.le_refl _) P'.V
  have HU8 := Lib.hid (HU7.out.below h8)
  have K38 := Lib.hid (K37.out.below h8)
  have K48 := Lib.hid (K47.out.row P'.V)
  clear h8 hba
  go_upto_region 8 with (first
    | (refine wpList_store_row rfl 38 (.tmp 10) (.tmp 50) rfl w7.heap.size P'.V rfl rfl 38 zero22 K47.out P'.i (by rw [P'.n]; rfl) P'.o ?_)
    | fail)
  generalize ((w7.alloc (.cells #[.int .i64 0, .int .i64 0, .bool false, .int .i64 0, .int .i64 0, .int .i64 0, .int .i64 0, .bool false, .bool false, .int .i64 0, .int .i64 0, .string { data := #[] }, .int .i64 0, .int .i64 0, .string { data := #[] }, .string { data := #[] }, .string { data := #[] }, .int .i64 0, .int .i64 0, .string { data := #[] }, .string { data := #[] }, .bool false] 38)).setRow w7.heap.size P'.V) = W8 at HB8 HU8 K38 K48 ⊢
  have hh : w7.heap.size < W8.heap.size := K48.out.lt
  have hne : ¬ only a w7.heap.size := fun e => by have : w7.heap.size = a := e; omega
  refine wp_region_held_drew (S := fun W => Blk W w7.heap.size P'.V 38 ∧ True) (by kernel_rfl) ⟨K48.out, trivial⟩ (fun hHeld => ?_)
  refine wpAnyH_take (i := 0) (v := .agg P'.V) rfl (by kernel_rfl) (by kernel_rfl) (by kernel_rfl) (fun _ _ _ h => h) (yieldsIf_load_mid rfl 38 (.tmp 10) rfl w7.heap.size 0 rfl P'.V.toList _ (fun W h => h.1.range) Tryz.underlying38 rfl (by rw [Array.length_toList]; exact P'.i)) hHeld ?_
  refine wpAnyH_take (i := 1) (v := .int .i64 c) rfl (by kernel_rfl) (by kernel_rfl) (by kernel_rfl) (fun _ _ _ h => h) (Or.inl ⟨by rfl, fun W hW => by rfl⟩) hHeld ?_
  refine wpAnyH_take (i := 2) (v := .pointer (some ⟨u, 0, none⟩)) rfl (by kernel_rfl) (by kernel_rfl) (by kernel_rfl) (fun _ _ _ h => h) (Or.inl ⟨by rfl, fun W hW => by rfl⟩) hHeld ?_
  refine wpAnyH_take (i := 3) (v := .string (bs tl)) rfl (by kernel_rfl) (by kernel_rfl) (by kernel_rfl) (fun _ _ _ h => h) (Or.inl ⟨by rfl, fun W hW => by rfl⟩) hHeld ?_
  refine wpAnyH_ready (rs := [4]) (by kernel_rfl) (by decide) (AllReadyH.cons rfl (fun K' hK => ?_) AllReadyH.nil)
  go_simp
  refine (Hui.out _ (HU8.out.below (below_drewN (Below.refl W8.heap.size W8) 1))).mono ?_
  rintro _ w9 ⟨rfl, hU9, hm⟩
  have hm9 : Mut (only a) W8 w9 := (Mut.of_below (below_drewN (Below.refl W8.heap.size W8) 1)).trans hm
  have K49 := K48.out.kept hm9 hne
  have K39 := K38.out.kept hm9 (fun e => by have : w.heap.size + 2 = a := e; omega)
  have HM9 := Lib.hid ((Mut.of_below (S := only a) HB8.out).trans hm9)
  have HU9 := Lib.hid hU9
  clear hm hm9 hU9
  refine hK.out _ _ ⟨K49, trivial⟩ (fun hHeld => ?_)
  clear hK
  refine wpAnyH_ready (rs := [5]) (by kernel_rfl) (by decide) (AllReadyH.cons rfl (fun K' hK => ?_) AllReadyH.nil)
  rw [if_pos (by rfl)]
  refine wp_store_row 38 (.tmp 6) (.tmp 52) rfl (w.heap.size + 1 + 1) P'.V rfl rfl 38 zero22 K39 P'.i (by rw [Pl.n]; rfl) P'.o ?_
  have HM10 := Lib.hid (HM9.out.row (show w.heap.size ≤ w.heap.size + 1 + 1 by omega) P'.V)
  have HU10 := Lib.hid (HU9.out.mut1 (Mut.rowAt w9 (w.heap.size + 1 + 1) P'.V) K39 (by omega) (by omega))
  have K310 := K39.row P'.V
  refine hK.out _ _ ⟨K49.rowFar (g := w.heap.size + 1 + 1) (by omega) P'.V, trivial⟩ (fun hHeld => ?_)
  clear hK
  refine wpAnyH_ready (rs := [6]) (by kernel_rfl) (by decide) (AllReadyH.cons rfl (fun K' hK => ?_) AllReadyH.nil)
  go_simp
  refine hK.out _ _ hHeld (fun hHeld => ?_)
  clear hK
  refine wpAnyH_ready (rs := [7]) (by kernel_rfl) (by decide) (AllReadyH.cons rfl (fun K' hK => ?_) AllReadyH.nil)
  go_simp
  refine hK.out _ _ hHeld (fun hHeld => ?_)
  clear hK
  refine wpAnyH_done (by kernel_rfl) ?_ _
  go_wp2_with fail
  refine bodyPost_ret (results_ctt (p := 6) (u := 7) (v := 8) (ty := 38) (by kernel_rfl) _ _ (w.heap.size + 1 + 1) 38 P'.V _ rfl K310 Tryz.underlying38 rfl P'.i) rfl ?_
  exact ⟨P', x', c, rfl, HR'.out, HI'.out, HPG.out, HU10.out, HM10.out⟩
end Go.Proofs.YticnmogeknlmeaaGreatDoor.B
