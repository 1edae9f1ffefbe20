/- Helper: what sealing does to a tree, walked. No condition. -/
import Derived.Test.YteilmbhnbmmcjaaMg
namespace Go.Proofs.Yteilmbhnbmmcjaa.B
open Go.RowKit Go.Maps Go.Proofs.YteilmbhnbmmcjaaW.PrintWords
set_option maxRecDepth 100000
set_option maxHeartbeats 1600000
theorem do_7 (T : Tree) (base tp : Nat) (w : World) (h : TreeAt base w tp T) (hb : base ≤ w.heap.size) (r : Rc) (hk : r.k = 7) (hs : I64 r.s) (hW : WfT (doT T r).2) : Calls Try.prog 47 #[.map (some tp), .agg r.cells] w (DoPost base tp w (doT T r)) := by
  have hB0 : Below w.heap.size w (w.alloc (.cells #[.int .i64 7, .int .i64 r.s, .int .i64 r.p, .int .i64 r.a, .int .i64 r.t, .int .i64 r.n] 34)) := (Below.refl _ _).alloc (Nat.le_refl _) _
  have htp := h.lt
  have hcell : r.cells = #[.int .i64 7, .int .i64 r.s, .int .i64 r.p, .int .i64 r.a, .int .i64 r.t, .int .i64 r.n] := by rw [← hk]; rfl
  have hno := do_none T base tp w h hb r (by rw [hk]; decide) hs
  obtain ⟨h0, F, hM, hP⟩ := h.below hB0
  rcases phys_look hM hP hs with ⟨hn, hl⟩ | ⟨sp, rp, hsm, hF, hrb, hrt, hpg, hl⟩
  · exact hno hn
  clear hno
  rw [hcell]
  have hx : doT T r = (0, upT T r.s (some { sp with sl := true })) := by simp [doT, hsm, hk]
  rw [hx] at hW ⊢
  have hl1 := hl true
  simp only [if_true] at hl1
  obtain ⟨wa, hwa⟩ : ∃ wa, wa = (w.alloc (.cells #[.int .i64 7, .int .i64 r.s, .int .i64 r.p, .int .i64 r.a, .int .i64 r.t, .int .i64 r.n] 34)) := ⟨_, rfl⟩
  have hsa : wa.heap.size = w.heap.size + 1 := by rw [hwa]; simp
  rw [← hwa] at hM hP hpg hB0
  obtain ⟨wb, hwb⟩ : ∃ wb, wb = wa.alloc (.cells #[.int .i64 sp.q, .bool true, .map (some rp)] 109) := ⟨_, rfl⟩
  have hBb : Below wa.heap.size wa wb := by rw [hwb]; exact (Below.refl _ _).alloc (Nat.le_refl _) _
  have hsb : wb.heap.size = w.heap.size + 2 := by rw [hwb]; simp [hsa]
  have HB1 := Lib.hid (hB0.trans (hBb.mono (by omega)))
  have HM := Lib.hid (hM.below hBb)
  have HP := Lib.hid hP
  have HPG := Lib.hid (hpg.same (hBb.block rp hpg.lt))
  have HF := Lib.hid hF
  have HBb := Lib.hid hBb
  rw [hwb, hwa] at HM
  clear hl hP hM hpg hF hBb hB0
  go_enter Try.func47, Try.ntmps47
  go_wp2_with (first | (at_mapUpdate; refine update_map rfl _ _ _ 92 rfl 109 und92 HM.out (by omega) r.s hs (sp.q, true, some rp) rfl rfl rfl ?_; intro w5 hO5 hM5 hs5))
  go_ret
  rw [← hwa, ← hwb] at hM5 hs5
  refine ⟨rfl, (HB1.out.mono hb).trans (hM5.below (by omega) (fun i hi e => by omega)), fun _ => ?_⟩
  refine TreeAt.update (sp := { sp with sl := true }) hO5 h0 HP.out (HPG.out.same (hM5.block rp HPG.out.lt hrt)) hrb hrt ?_ ?_ hW
  · intro k' q s hne e
    exact hne (HP.out.2.2 _ _ _ _ _ _ _ e HF.out)
  · intro i hi h1 h2
    rw [hM5.block i (by omega) h1]
    exact HBb.out.block i hi
end Go.Proofs.Yteilmbhnbmmcjaa.B
