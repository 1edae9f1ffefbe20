/- Helper: what a record does to a tree, walked. what a record does to a tree, walked. what sealing does to a tree, walked. No condition. -/
import Derived.Test.YteilmbhnbmmcjaaMe
import Derived.Test.YteilmbhnbmmcjaaRb
namespace Go.Proofs.Yteilmbhnbmmcjaa.B
open Go.RowKit Go.Maps Go.Proofs.YteilmbhnbmmcjaaW.PrintWords
set_option maxRecDepth 100000
set_option maxHeartbeats 1600000
def upT (T : Tree) (k : Int) (v : Option Sp) : Tree := fun i => if i = k then v else T i
theorem upT_same (T : Tree) (k : Int) (v : Option Sp) : upT T k v k = v := by simp [upT]
theorem upT_other (T : Tree) {k i : Int} (v : Option Sp) (h : i ≠ k) : upT T k v i = T i := by simp [upT, h]
theorem dom15 {T : Tree} (hT : WfT T) {F : Int → Option (Int × Bool × Option Nat)} (h : ∀ k, T k = none → F k = none) : ∀ k, I64 k → F k ≠ none → (1 : Int) ≤ k ∧ k < 1 + (15 : Nat) := by
  intro k _ hk
  cases hT' : T k with
  | none => exact absurd (h k hT') hk
  | some sp =>
    have := hT k sp hT'
    constructor
    · exact this.1
    · have := this.2.1; omega
theorem TreeAt.update {base tp rp n : Nat} {w w' : World} {T : Tree} {F : Int → Option (Int × Bool × Option Nat)} {k : Int} {sp : Sp} (hM : MapAt codS w' tp n (up F k (some (sp.q, sp.sl, some rp)))) (h0 : base ≤ tp) (hP : PhysIn base w tp T F) (hpg : PagesAt w' rp sp.pages) (hb : base ≤ rp) (hne : rp ≠ tp)
    (hfr : ∀ k' q s, k' ≠ k → F k' ≠ some (q, s, some rp)) (hkeep : ∀ i, i < w.heap.size → i ≠ tp → i ≠ rp → w'.heap[i]? = w.heap[i]?) (hW : WfT (upT T k (some sp))) : TreeAt base w' tp (upT T k (some sp)) := by
  obtain ⟨h1, h2, h3⟩ := hP
  have hnone : ∀ i, upT T k (some sp) i = none → up F k (some (sp.q, sp.sl, some rp)) i = none := fun i hi => by
    by_cases e : i = k
    · subst e; rw [upT_same] at hi; cases hi
    · rw [upT_other _ _ e] at hi
      rw [up_other _ _ e]
      exact h1 i hi
  refine ⟨h0, _, hM.tight (dom15 hW hnone), hnone, fun i sp' hi => ?_, fun i j q s q' s' r e1 e2 => ?_⟩
  · by_cases e : i = k
    · subst e
      rw [upT_same] at hi
      obtain rfl := Option.some.inj hi
      exact ⟨rp, up_same _ _ _, hb, hne, hpg⟩
    · rw [upT_other _ _ e] at hi
      obtain ⟨r, e1, e2, e3, e4⟩ := h2 i sp' hi
      refine ⟨r, by rw [up_other _ _ e]; exact e1, e2, e3, e4.same (hkeep r e4.lt e3 (fun er => ?_))⟩
      subst er
      exact hfr i _ _ e e1
  · by_cases ei : i = k
    · by_cases ej : j = k
      · rw [ei, ej]
      · subst ei
        rw [up_same] at e1
        rw [up_other _ _ ej] at e2
        simp at e1
        rw [← e1.2.2] at e2
        exact absurd e2 (hfr j _ _ ej)
    · by_cases ej : j = k
      · subst ej
        rw [up_same] at e2
        rw [up_other _ _ ei] at e1
        simp at e2
        rw [← e2.2.2] at e1
        exact absurd e1 (hfr i _ _ ei)
      · rw [up_other _ _ ei] at e1
        rw [up_other _ _ ej] at e2
        exact h3 _ _ _ _ _ _ _ e1 e2
theorem TreeAt.delete {base tp n : Nat} {w w' : World} {T : Tree} {F : Int → Option (Int × Bool × Option Nat)} {k : Int} (hM : MapAt codS w' tp n (up F k none)) (h0 : base ≤ tp) (hP : PhysIn base w tp T F) (hkeep : ∀ i, i < w.heap.size → i ≠ tp → w'.heap[i]? = w.heap[i]?) (hW : WfT (upT T k none)) : TreeAt base w' tp (upT T k none) := by
  obtain ⟨h1, h2, h3⟩ := hP
  have hnone : ∀ i, upT T k none i = none → up F k none i = none := fun i hi => by
    by_cases e : i = k
    · subst e; rw [up_same]
    · rw [upT_other _ _ e] at hi
      rw [up_other _ _ e]
      exact h1 i hi
  refine ⟨h0, _, hM.tight (dom15 hW hnone), hnone, fun i sp' hi => ?_, fun i j q s q' s' r e1 e2 => ?_⟩
  · by_cases e : i = k
    · subst e; rw [upT_same] at hi; cases hi
    · rw [upT_other _ _ e] at hi
      obtain ⟨r, e1, e2, e3, e4⟩ := h2 i sp' hi
      exact ⟨r, by rw [up_other _ _ e]; exact e1, e2, e3, e4.same (hkeep r e4.lt e3)⟩
  · by_cases ei : i = k
    · subst ei; rw [up_same] at e1; cases e1
    · by_cases ej : j = k
      · subst ej; rw [up_same] at e2; cases e2
      · rw [up_other _ _ ei] at e1
        rw [up_other _ _ ej] at e2
        exact h3 _ _ _ _ _ _ _ e1 e2
theorem TreeAt.pages {base tp rp n : Nat} {w w' : World} {T : Tree} {F : Int → Option (Int × Bool × Option Nat)} {k : Int} {sp : Sp} {pg : Int → Option ByteArray} (hM : MapAt codS w' tp n F) (h0 : base ≤ tp) (hP : PhysIn base w tp T F) (hk : T k = some sp) (hF : F k = some (sp.q, sp.sl, some rp)) (hpg : PagesAt w' rp pg) (hkeep : ∀ i, i < w.heap.size → i ≠ rp → w'.heap[i]? = w.heap[i]?) (hW : WfT (upT T k (some { sp with pages := pg }))) : TreeAt base w' tp (upT T k (some { sp with pages := pg })) := by
  obtain ⟨h1, h2, h3⟩ := hP
  have hnone : ∀ i, upT T k (some { sp with pages := pg }) i = none → F i = none := fun i hi => by
    by_cases e : i = k
    · subst e; rw [upT_same] at hi; cases hi
    · rw [upT_other _ _ e] at hi
      exact h1 i hi
  refine ⟨h0, F, hM.tight (dom15 hW hnone), hnone, fun i sp' hi => ?_, h3⟩
  by_cases e : i = k
  · subst e
    rw [upT_same] at hi
    obtain rfl := Option.some.inj hi
    obtain ⟨r, e1, e2, e3, e4⟩ := h2 i sp hk
    rw [hF] at e1
    simp at e1
    subst e1
    exact ⟨rp, hF, e2, e3, hpg⟩
  · rw [upT_other _ _ e] at hi
    obtain ⟨r, e1, e2, e3, e4⟩ := h2 i sp' hi
    refine ⟨r, e1, e2, e3, e4.same (hkeep r e4.lt (fun er => e ?_))⟩
    subst er
    exact h3 _ _ _ _ _ _ _ e1 hF
def mayE (T : Tree) (id : Int) : Int := match T id with
  | none => 80
  | some sp => if sp.sl then 170 else 0
theorem phys_look {base tp : Nat} {w : World} {T : Tree} {F : Int → Option (Int × Bool × Option Nat)} (hM : MapAt codS w tp 15 F) (hP : PhysIn base w tp T F) {id : Int} (hid : I64 id) :
    (T id = none ∧ (∀ c : Bool, (Instr.lookup 92 (.map (some tp)) (.int .i64 id) c).run Try.prog w = .ok (if c then .tuple #[.agg #[.int .i64 0, .bool false, .map none], .bool false] else .agg #[.int .i64 0, .bool false, .map none]) w)) ∨
    ∃ sp rp, T id = some sp ∧ F id = some (sp.q, sp.sl, some rp) ∧ base ≤ rp ∧ rp ≠ tp ∧ PagesAt w rp sp.pages ∧ (∀ c : Bool, (Instr.lookup 92 (.map (some tp)) (.int .i64 id) c).run Try.prog w = .ok (if c then .tuple #[.agg #[.int .i64 sp.q, .bool sp.sl, .map (some rp)], .bool true] else .agg #[.int .i64 sp.q, .bool sp.sl, .map (some rp)]) w) := by
  have hl := hM.look und92 (zero109 w) hid
  cases hT : T id with
  | none =>
    rw [hP.1 id hT] at hl
    exact Or.inl ⟨rfl, fun c => by cases c; exact hl.2; exact hl.1⟩
  | some sp =>
    obtain ⟨rp, e1, e2, e3, e4⟩ := hP.2.1 id sp hT
    rw [e1] at hl
    exact Or.inr ⟨sp, rp, rfl, e1, e2, e3, e4, fun c => by cases c; exact hl.2; exact hl.1⟩
theorem may_any (T : Tree) (base tp : Nat) (w : World) (h : TreeAt base w tp T) (id : Int) (hid : I64 id) : Calls Try.prog 44 #[.map (some tp), .int .i64 id] w fun e w' => e = .returned (.int .i64 (mayE T id)) ∧ Below w.heap.size w w' := by
  obtain ⟨_, F, hM, hP⟩ := h
  have hB := Below.refl w.heap.size w
  rcases phys_look hM hP hid with ⟨hn, hl⟩ | ⟨sp, rp, hs, _, _, _, _, hl⟩
  · have hl1 := hl true
    simp only [if_true] at hl1
    clear hl hP hM
    have e : mayE T id = 80 := by simp [mayE, hn]
    rw [e]
    go_enter Try.func44, Try.ntmps44
    go_wp2
    go_ret
    exact ⟨rfl, hB.alloc (Nat.le_refl _) _⟩
  · have hl1 := hl true
    simp only [if_true] at hl1
    clear hl hP hM
    have e : mayE T id = if sp.sl then 170 else 0 := by simp [mayE, hs]
    rw [e]
    cases hsl : sp.sl
    · rw [hsl] at hl1
      go_enter Try.func44, Try.ntmps44
      go_wp2
      go_ret
      exact ⟨rfl, hB.alloc (Nat.le_refl _) _⟩
    · rw [hsl] at hl1
      go_enter Try.func44, Try.ntmps44
      go_wp2
      go_ret
      exact ⟨rfl, hB.alloc (Nat.le_refl _) _⟩
end Go.Proofs.Yteilmbhnbmmcjaa.B
namespace Go.Proofs.Yteilmbhnbmmcjaa.B
open Go.RowKit Go.Maps Go.Proofs.YteilmbhnbmmcjaaW.PrintWords
set_option maxRecDepth 100000
set_option maxHeartbeats 1600000
def noPages : Int → Option ByteArray := fun _ => none
/-- What a record does to a tree: the error, and the tree behind it. -/
def doT (T : Tree) (r : Rc) : Int × Tree :=
  match T r.s with
  | none => if r.k = 4 then (0, upT T r.s (some ⟨r.n, false, noPages⟩)) else (80, T)
  | some sp =>
    if r.k = 4 then (80, T)
    else if r.k = 5 then (0, upT T r.s none)
    else if r.k = 6 then (if (T r.t).isSome then (80, T) else (0, upT T r.t (some ⟨sp.q, false, sp.pages⟩)))
    else if r.k = 7 then (0, upT T r.s (some { sp with sl := true }))
    else if (sp.pages r.p).isSome then (0, upT T r.s (some { sp with pages := fun i => if i = r.p then none else sp.pages i }))
    else (81, T)
def DoPost (base tp : Nat) (w : World) (x : Int × Tree) (e : Ending) (w' : World) : Prop :=
  e = .returned (.int .i64 x.1) ∧ Below base w w' ∧ (x.1 = 0 → TreeAt base w' tp x.2)
theorem do_none (T : Tree) (base tp : Nat) (w : World) (h : TreeAt base w tp T) (hb : base ≤ w.heap.size) (r : Rc) (hk : r.k ≠ 4) (hs : I64 r.s) (hn : T r.s = none) : Calls Try.prog 47 #[.map (some tp), .agg r.cells] w (DoPost base tp w (doT T r)) := by
  have hx : doT T r = (80, T) := by simp [doT, hn, hk]
  have hB0 : Below w.heap.size w (w.alloc (.cells #[.int .i64 r.k, .int .i64 r.s, .int .i64 r.p, .int .i64 r.a, .int .i64 r.t, .int .i64 r.n] 34)) := (Below.refl _ _).alloc (Nat.le_refl _) _
  obtain ⟨_, F, hM, hP⟩ := h.below hB0
  rcases phys_look hM hP hs with ⟨_, hl⟩ | ⟨sp, rp, hs, _⟩
  · have hl1 := hl true
    simp only [if_true] at hl1
    have hkb : (r.k == 4) = false := beq_eq_false_iff_ne.2 hk
    clear hl hP hM
    show Calls Try.prog 47 #[.map (some tp), .agg #[.int .i64 r.k, .int .i64 r.s, .int .i64 r.p, .int .i64 r.a, .int .i64 r.t, .int .i64 r.n]] w _
    rw [hx]
    go_enter Try.func47, Try.ntmps47
    go_wp2
    go_ret
    exact ⟨rfl, (hB0.alloc (by simp) _).mono hb, fun h => (by simp at h)⟩
  · rw [hn] at hs; cases hs
theorem do_4 (T : Tree) (base tp : Nat) (w : World) (h : TreeAt base w tp T) (hb : base ≤ w.heap.size) (r : Rc) (hk : r.k = 4) (hs : I64 r.s) (hW : WfT (doT T r).2) : Calls Try.prog 47 #[.map (some tp), .agg r.cells] w (DoPost base tp w (doT T r)) := by
  have hB0 : Below w.heap.size w (w.alloc (.cells #[.int .i64 4, .int .i64 r.s, .int .i64 r.p, .int .i64 r.a, .int .i64 r.t, .int .i64 r.n] 34)) := (Below.refl _ _).alloc (Nat.le_refl _) _
  have htp := h.lt
  obtain ⟨h0, F, hM, hP⟩ := h.below hB0
  have hmm := @run_makeMap Try.prog
  have hcell : r.cells = #[.int .i64 4, .int .i64 r.s, .int .i64 r.p, .int .i64 r.a, .int .i64 r.t, .int .i64 r.n] := by rw [← hk]; rfl
  rw [hcell]
  rcases phys_look hM hP hs with ⟨hn, hl⟩ | ⟨sp, rp, hsm, _, _, _, _, hl⟩
  · have hx : doT T r = (0, upT T r.s (some ⟨r.n, false, noPages⟩)) := by simp [doT, hn, hk]
    rw [hx] at hW ⊢
    have hl1 := hl true
    simp only [if_true] at hl1
    have HP := Lib.hid hP
    have HB1 := Lib.hid ((hB0.alloc (by simp) (.cells #[.int .i64 0, .bool false, .map none] 109)).alloc (by simp; omega) (.map #[] 0))
    obtain ⟨wa, hwa⟩ : ∃ wa, wa = (w.alloc (.cells #[.int .i64 4, .int .i64 r.s, .int .i64 r.p, .int .i64 r.a, .int .i64 r.t, .int .i64 r.n] 34)) := ⟨_, rfl⟩
    have hsa : wa.heap.size = w.heap.size + 1 := by rw [hwa]; simp
    have HBa := Lib.hid (((Below.refl wa.heap.size wa).alloc (Nat.le_refl _) (.cells #[.int .i64 0, .bool false, .map none] 109)).alloc (by simp) (.map #[] 0))
    have HMa := Lib.hid hM
    rw [← hwa] at HMa HP
    have HM := Lib.hid (HMa.out.below HBa.out)
    have hG := MapAt.new codL (wa.alloc (.cells #[.int .i64 0, .bool false, .map none] 109))
    rw [show (wa.alloc (.cells #[.int .i64 0, .bool false, .map none] 109)).heap.size = w.heap.size + 2 by simp [hsa]] at hG
    have HG := Lib.hid hG
    clear hG
    rw [hwa] at HM HG
    clear hl hP hM HMa
    go_enter Try.func47, Try.ntmps47
    go_wp2_with (first | (at_mapUpdate; refine update_map rfl _ _ _ 92 rfl 109 und92 HM.out (by omega) r.s hs (r.n, false, some (w.heap.size + 2)) rfl rfl rfl ?_; intro w5 hO5 hM5 hs5))
    go_ret
    refine ⟨rfl, (HB1.out.mono hb).trans (hM5.below (by simp; omega) (fun i hi e => by omega)), fun _ => ?_⟩
    rw [← hwa] at hM5 hs5 HG
    refine TreeAt.update hO5 h0 HP.out ?_ (by omega) (by omega) ?_ ?_ hW
    · exact ⟨_, ((HG.out.mono (by omega)).kept hM5 (by omega)), fun _ => rfl, fun _ _ _ h => (by cases h)⟩
    · intro k' q s hne e
      cases hT' : T k' with
      | none => rw [HP.out.1 k' hT'] at e; cases e
      | some sp' =>
        obtain ⟨rp', e1, _, _, e4⟩ := HP.out.2.1 k' sp' hT'
        rw [e] at e1
        simp at e1
        have := e4.lt
        omega
    · intro i hi h1 h2
      rw [hM5.block i (by simp; omega) h1]
      exact HBa.out.block i hi
  · have hx : doT T r = (80, T) := by simp [doT, hsm, hk]
    rw [hx]
    have hl1 := hl true
    simp only [if_true] at hl1
    clear hl hP hM
    go_enter Try.func47, Try.ntmps47
    go_wp2
    go_ret
    exact ⟨rfl, (hB0.alloc (by simp) _).mono hb, fun h => (by simp at h)⟩
end Go.Proofs.Yteilmbhnbmmcjaa.B
namespace Go.Proofs.Yteilmbhnbmmcjaa.B
open Go.RowKit Go.Maps Go.Proofs.YteilmbhnbmmcjaaW.PrintWords
set_option maxRecDepth 100000
set_option maxHeartbeats 1600000
theorem do_7 (T : Tree) (base tp : Nat) (w : World) (h : TreeAt base w tp T) (hb : base ≤ w.heap.size) (r : Rc) (hk : r.k = 7) (hs : I64 r.s) (hW : WfT (doT T r).2) : Calls Try.prog 47 #[.map (some tp), .agg r.cells] w (DoPost base tp w (doT T r)) := by
  have hB0 : Below w.heap.size w (w.alloc (.cells #[.int .i64 7, .int .i64 r.s, .int .i64 r.p, .int .i64 r.a, .int .i64 r.t, .int .i64 r.n] 34)) := (Below.refl _ _).alloc (Nat.le_refl _) _
  have htp := h.lt
  have hcell : r.cells = #[.int .i64 7, .int .i64 r.s, .int .i64 r.p, .int .i64 r.a, .int .i64 r.t, .int .i64 r.n] := by rw [← hk]; rfl
  have hno := do_none T base tp w h hb r (by rw [hk]; decide) hs
  obtain ⟨h0, F, hM, hP⟩ := h.below hB0
  rcases phys_look hM hP hs with ⟨hn, hl⟩ | ⟨sp, rp, hsm, hF, hrb, hrt, hpg, hl⟩
  · exact hno hn
  clear hno
  rw [hcell]
  have hx : doT T r = (0, upT T r.s (some { sp with sl := true })) := by simp [doT, hsm, hk]
  rw [hx] at hW ⊢
  have hl1 := hl true
  simp only [if_true] at hl1
  obtain ⟨wa, hwa⟩ : ∃ wa, wa = (w.alloc (.cells #[.int .i64 7, .int .i64 r.s, .int .i64 r.p, .int .i64 r.a, .int .i64 r.t, .int .i64 r.n] 34)) := ⟨_, rfl⟩
  have hsa : wa.heap.size = w.heap.size + 1 := by rw [hwa]; simp
  rw [← hwa] at hM hP hpg hB0
  obtain ⟨wb, hwb⟩ : ∃ wb, wb = wa.alloc (.cells #[.int .i64 sp.q, .bool true, .map (some rp)] 109) := ⟨_, rfl⟩
  have hBb : Below wa.heap.size wa wb := by rw [hwb]; exact (Below.refl _ _).alloc (Nat.le_refl _) _
  have hsb : wb.heap.size = w.heap.size + 2 := by rw [hwb]; simp [hsa]
  have HB1 := Lib.hid (hB0.trans (hBb.mono (by omega)))
  have HM := Lib.hid (hM.below hBb)
  have HP := Lib.hid hP
  have HPG := Lib.hid (hpg.same (hBb.block rp hpg.lt))
  have HF := Lib.hid hF
  have HBb := Lib.hid hBb
  rw [hwb, hwa] at HM
  clear hl hP hM hpg hF hBb hB0
  go_enter Try.func47, Try.ntmps47
  go_wp2_with (first | (at_mapUpdate; refine update_map rfl _ _ _ 92 rfl 109 und92 HM.out (by omega) r.s hs (sp.q, true, some rp) rfl rfl rfl ?_; intro w5 hO5 hM5 hs5))
  go_ret
  rw [← hwa, ← hwb] at hM5 hs5
  refine ⟨rfl, (HB1.out.mono hb).trans (hM5.below (by omega) (fun i hi e => by omega)), fun _ => ?_⟩
  refine TreeAt.update (sp := { sp with sl := true }) hO5 h0 HP.out (HPG.out.same (hM5.block rp HPG.out.lt hrt)) hrb hrt ?_ ?_ hW
  · intro k' q s hne e
    exact hne (HP.out.2.2 _ _ _ _ _ _ _ e HF.out)
  · intro i hi h1 h2
    rw [hM5.block i (by omega) h1]
    exact HBb.out.block i hi
end Go.Proofs.Yteilmbhnbmmcjaa.B
