/- Helper: what a record does to a tree, walked. No condition. -/
import Derived.Test.YteilmbhnbmmcjaaMf
namespace Go.Proofs.Yteilmbhnbmmcjaa.B
open Go.RowKit Go.Maps Go.Proofs.YteilmbhnbmmcjaaW.PrintWords
set_option maxRecDepth 100000
set_option maxHeartbeats 1600000
def noPages : Int → Option ByteArray := fun _ => none
/-- What a record does to a tree: the error, and the tree behind it. -/
def doT (T : Tree) (r : Rc) : Int × Tree :=
  match T r.s with
  | none => if r.k = 4 then (0, upT T r.s (some ⟨r.n, false, noPages⟩)) else (80, T)
  | some sp =>
    if r.k = 4 then (80, T)
    else if r.k = 5 then (0, upT T r.s none)
    else if r.k = 6 then (if (T r.t).isSome then (80, T) else (0, upT T r.t (some ⟨sp.q, false, sp.pages⟩)))
    else if r.k = 7 then (0, upT T r.s (some { sp with sl := true }))
    else if (sp.pages r.p).isSome then (0, upT T r.s (some { sp with pages := fun i => if i = r.p then none else sp.pages i }))
    else (81, T)
def DoPost (base tp : Nat) (w : World) (x : Int × Tree) (e : Ending) (w' : World) : Prop :=
  e = .returned (.int .i64 x.1) ∧ Below base w w' ∧ (x.1 = 0 → TreeAt base w' tp x.2)
theorem do_none (T : Tree) (base tp : Nat) (w : World) (h : TreeAt base w tp T) (hb : base ≤ w.heap.size) (r : Rc) (hk : r.k ≠ 4) (hs : I64 r.s) (hn : T r.s = none) : Calls Try.prog 47 #[.map (some tp), .agg r.cells] w (DoPost base tp w (doT T r)) := by
  have hx : doT T r = (80, T) := by simp [doT, hn, hk]
  have hB0 : Below w.heap.size w (w.alloc (.cells #[.int .i64 r.k, .int .i64 r.s, .int .i64 r.p, .int .i64 r.a, .int .i64 r.t, .int .i64 r.n] 34)) := (Below.refl _ _).alloc (Nat.le_refl _) _
  obtain ⟨_, F, hM, hP⟩ := h.below hB0
  rcases phys_look hM hP hs with ⟨_, hl⟩ | ⟨sp, rp, hs, _⟩
  · have hl1 := hl true
    simp only [if_true] at hl1
    have hkb : (r.k == 4) = false := beq_eq_false_iff_ne.2 hk
    clear hl hP hM
    show Calls Try.prog 47 #[.map (some tp), .agg #[.int .i64 r.k, .int .i64 r.s, .int .i64 r.p, .int .i64 r.a, .int .i64 r.t, .int .i64 r.n]] w _
    rw [hx]
    go_enter Try.func47, Try.ntmps47
    go_wp2
    go_ret
    exact ⟨rfl, (hB0.alloc (by simp) _).mono hb, fun h => (by simp at h)⟩
  · rw [hn] at hs; cases hs
theorem do_4 (T : Tree) (base tp : Nat) (w : World) (h : TreeAt base w tp T) (hb : base ≤ w.heap.size) (r : Rc) (hk : r.k = 4) (hs : I64 r.s) (hW : WfT (doT T r).2) : Calls Try.prog 47 #[.map (some tp), .agg r.cells] w (DoPost base tp w (doT T r)) := by
  have hB0 : Below w.heap.size w (w.alloc (.cells #[.int .i64 4, .int .i64 r.s, .int .i64 r.p, .int .i64 r.a, .int .i64 r.t, .int .i64 r.n] 34)) := (Below.refl _ _).alloc (Nat.le_refl _) _
  have htp := h.lt
  obtain ⟨h0, F, hM, hP⟩ := h.below hB0
  have hmm := @run_makeMap Try.prog
  have hcell : r.cells = #[.int .i64 4, .int .i64 r.s, .int .i64 r.p, .int .i64 r.a, .int .i64 r.t, .int .i64 r.n] := by rw [← hk]; rfl
  rw [hcell]
  rcases phys_look hM hP hs with ⟨hn, hl⟩ | ⟨sp, rp, hsm, _, _, _, _, hl⟩
  · have hx : doT T r = (0, upT T r.s (some ⟨r.n, false, noPages⟩)) := by simp [doT, hn, hk]
    rw [hx] at hW ⊢
    have hl1 := hl true
    simp only [if_true] at hl1
    have HP := Lib.hid hP
    have HB1 := Lib.hid ((hB0.alloc (by simp) (.cells #[.int .i64 0, .bool false, .map none] 109)).alloc (by simp; omega) (.map #[] 0))
    obtain ⟨wa, hwa⟩ : ∃ wa, wa = (w.alloc (.cells #[.int .i64 4, .int .i64 r.s, .int .i64 r.p, .int .i64 r.a, .int .i64 r.t, .int .i64 r.n] 34)) := ⟨_, rfl⟩
    have hsa : wa.heap.size = w.heap.size + 1 := by rw [hwa]; simp
    have HBa := Lib.hid (((Below.refl wa.heap.size wa).alloc (Nat.le_refl _) (.cells #[.int .i64 0, .bool false, .map none] 109)).alloc (by simp) (.map #[] 0))
    have HMa := Lib.hid hM
    rw [← hwa] at HMa HP
    have HM := Lib.hid (HMa.out.below HBa.out)
    have hG := MapAt.new codL (wa.alloc (.cells #[.int .i64 0, .bool false, .map none] 109))
    rw [show (wa.alloc (.cells #[.int .i64 0, .bool false, .map none] 109)).heap.size = w.heap.size + 2 by simp [hsa]] at hG
    have HG := Lib.hid hG
    clear hG
    rw [hwa] at HM HG
    clear hl hP hM HMa
    go_enter Try.func47, Try.ntmps47
    go_wp2_with (first | (at_mapUpdate; refine update_map rfl _ _ _ 92 rfl 109 und92 HM.out (by omega) r.s hs (r.n, false, some (w.heap.size + 2)) rfl rfl rfl ?_; intro w5 hO5 hM5 hs5))
    go_ret
    refine ⟨rfl, (HB1.out.mono hb).trans (hM5.below (by simp; omega) (fun i hi e => by omega)), fun _ => ?_⟩
    rw [← hwa] at hM5 hs5 HG
    refine TreeAt.update hO5 h0 HP.out ?_ (by omega) (by omega) ?_ ?_ hW
    · exact ⟨_, ((HG.out.mono (by omega)).kept hM5 (by omega)), fun _ => rfl, fun _ _ _ h => (by cases h)⟩
    · intro k' q s hne e
      cases hT' : T k' with
      | none => rw [HP.out.1 k' hT'] at e; cases e
      | some sp' =>
        obtain ⟨rp', e1, _, _, e4⟩ := HP.out.2.1 k' sp' hT'
        rw [e] at e1
        simp at e1
        have := e4.lt
        omega
    · intro i hi h1 h2
      rw [hM5.block i (by simp; omega) h1]
      exact HBa.out.block i hi
  · have hx : doT T r = (80, T) := by simp [doT, hsm, hk]
    rw [hx]
    have hl1 := hl true
    simp only [if_true] at hl1
    clear hl hP hM
    go_enter Try.func47, Try.ntmps47
    go_wp2
    go_ret
    exact ⟨rfl, (hB0.alloc (by simp) _).mono hb, fun h => (by simp at h)⟩
end Go.Proofs.Yteilmbhnbmmcjaa.B
