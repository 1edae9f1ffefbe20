/- Helper: trees of spaces in memory; clone, walked. No condition. -/
import Derived.Test.YteilmbhnbmmcjaaMc
namespace Go.Proofs.Yteilmbhnbmmcjaa.B
open Go.RowKit Go.Maps Go.Proofs.YteilmbhnbmmcjaaW.PrintWords
section
variable {α : Type} {c : Cod α} {w : World} {b n : Nat} {f : Int → Option α} {ops : Array Oper} {rest : List Oper} {o : Oper} {a : Act} {Q : Exit → Act → World → Prop}
theorem update_map (hg : o.guard = none) (m x v : Operand) (t : TypeId) (hop : o.op = Op.mapUpdate t m x v) (e : TypeId) (ht : Try.prog.underlying t = some (.map 3 e)) (h : MapAt c w b n f) (hn : n < 1000000) (k : Int) (hk : I64 k) (u : α)
    (hm : a.eval m = .map (some b)) (hx : a.eval x = .int .i64 k) (hv : a.eval v = c.enc u)
    (hK : ∀ w', MapAt c w' b (n + 1) (up f k (some u)) → Mut (fun i => i = b) w w' → w'.heap.size = w.heap.size → wpList Try.prog ops Q rest (a.put o.dst undef) w') :
    wpList Try.prog ops Q (o :: rest) a w := by
  obtain ⟨w', r1, r2, r3, r4⟩ := h.put ht hn hk u
  refine wpList_plain hg fun K' hK' => ?_
  unfold Oper.wp
  simp [execOp, hop, hm, hx, hv, r1, Result.andThen]
  exact hK' _ _ (hK w' r2 (Mut.of_grown r3 rfl) r4)
theorem delete_map (hg : o.guard = none) (m x : Operand) (t : TypeId) (hop : o.op = Op.call { callee := Callee.builtin Builtin.delete, args := #[m, x], argTypes := #[t, 3] }) (e : TypeId) (ht : Try.prog.underlying t = some (.map 3 e)) (h : MapAt c w b n f) (k : Int) (hk : I64 k)
    (hm : a.eval m = .map (some b)) (hx : a.eval x = .int .i64 k)
    (hK : ∀ w', MapAt c w' b n (up f k none) → Mut (fun i => i = b) w w' → w'.heap.size = w.heap.size → wpList Try.prog ops Q rest (a.put o.dst (.tuple #[])) w') :
    wpList Try.prog ops Q (o :: rest) a w := by
  obtain ⟨w', r1, r2, r3, r4⟩ := h.del ht hk o.type
  refine wpList_plain hg fun K' hK' => ?_
  unfold Oper.wp
  simp [execOp, hop, resolve, invoke, builtin, hm, hx, r1, Result.andThen]
  exact hK' _ _ (hK w' r2 (Mut.of_grown r3 rfl) r4)
end
/-- A space: how many pages it may have, whether it is sealed, what each page says. -/
structure Sp where
  q : Int
  sl : Bool
  pages : Int → Option ByteArray
abbrev Tree := Int → Option Sp
def WfT (T : Tree) : Prop := ∀ k sp, T k = some sp → 1 ≤ k ∧ k ≤ 15 ∧ 0 ≤ sp.q ∧ sp.q ≤ 1024 ∧ ∀ p s, sp.pages p = some s → 0 ≤ p ∧ p < sp.q
theorem WfT.i64 {T : Tree} (h : WfT T) {k : Int} {sp : Sp} (e : T k = some sp) : I64 k := by
  have := h k sp e
  constructor <;> omega
def PhysIn (base : Nat) (w : World) (tp : Nat) (T : Tree) (F : Int → Option (Int × Bool × Option Nat)) : Prop :=
  (∀ k, T k = none → F k = none) ∧
  (∀ k sp, T k = some sp → ∃ rp, F k = some (sp.q, sp.sl, some rp) ∧ base ≤ rp ∧ rp ≠ tp ∧ PagesAt w rp sp.pages) ∧
  (∀ k k' q s q' s' rp, F k = some (q, s, some rp) → F k' = some (q', s', some rp) → k = k')
/-- A tree in memory, all of it from block base on. -/
def TreeAt (base : Nat) (w : World) (tp : Nat) (T : Tree) : Prop := base ≤ tp ∧ ∃ F, MapAt codS w tp 15 F ∧ PhysIn base w tp T F
theorem PagesAt.lt {w : World} {rp : Nat} {pg : Int → Option ByteArray} (h : PagesAt w rp pg) : rp < w.heap.size := by obtain ⟨G, h, _⟩ := h; exact h.lt
theorem PagesAt.same {w w' : World} {rp : Nat} {pg : Int → Option ByteArray} (h : PagesAt w rp pg) (e : w'.heap[rp]? = w.heap[rp]?) : PagesAt w' rp pg := by
  obtain ⟨G, h1, h2⟩ := h
  exact ⟨G, h1.same e, h2⟩
theorem PhysIn.mut {S : Nat → Prop} {base tp : Nat} {w w' : World} {T : Tree} {F : Int → Option (Int × Bool × Option Nat)} (h : PhysIn base w tp T F) (hm : Mut S w w') (hS : ∀ k sp rp, T k = some sp → F k = some (sp.q, sp.sl, some rp) → ¬ S rp) : PhysIn base w' tp T F := by
  obtain ⟨h1, h2, h3⟩ := h
  refine ⟨h1, fun k sp hk => ?_, h3⟩
  obtain ⟨rp, e, hb, hne, hp⟩ := h2 k sp hk
  exact ⟨rp, e, hb, hne, hp.same (hm.block rp hp.lt (hS k sp rp hk e))⟩
theorem TreeAt.lt {base tp : Nat} {w : World} {T : Tree} (h : TreeAt base w tp T) : tp < w.heap.size := by obtain ⟨_, F, h, _⟩ := h; exact h.lt
theorem TreeAt.below {base tp : Nat} {w w' : World} {T : Tree} (h : TreeAt base w tp T) (hb : Below w.heap.size w w') : TreeAt base w' tp T := by
  obtain ⟨h0, F, h1, h2, h3, h4⟩ := h
  refine ⟨h0, F, h1.below hb, h2, fun k sp hk => ?_, h4⟩
  obtain ⟨rp, e, hbs, hne, hp⟩ := h3 k sp hk
  exact ⟨rp, e, hbs, hne, hp.same (hb.block rp hp.lt)⟩
/-- Rows of cells are no maps: what is done to them does not touch a tree. -/
theorem TreeAt.cellsMut {S : Nat → Prop} {base tp : Nat} {w w' : World} {T : Tree} (h : TreeAt base w tp T) (hm : Mut S w w') (hS : ∀ i, S i → ∀ es cl, w.heap[i]? ≠ some (.map es cl)) : TreeAt base w' tp T := by
  have hmap : ∀ {α : Type} {c : Cod α} {b n : Nat} {f : Int → Option α}, MapAt c w b n f → ¬ S b := fun {α c b n f} hM hs => by
    obtain ⟨D, ⟨es, cl, e, _⟩, _⟩ := hM
    exact hS _ hs es cl e
  obtain ⟨h0, F, h1, h2, h3, h4⟩ := h
  refine ⟨h0, F, h1.kept hm (hmap h1), h2, fun k sp hk => ?_, h4⟩
  obtain ⟨rp, e, hbs, hne, G, hp, hG⟩ := h3 k sp hk
  exact ⟨rp, e, hbs, hne, G, hp.kept hm (hmap hp), hG⟩
theorem TreeAt.lower {base b' tp : Nat} {w : World} {T : Tree} (h : TreeAt base w tp T) (hb : b' ≤ base) : TreeAt b' w tp T := by
  obtain ⟨h0, F, h1, h2, h3, h4⟩ := h
  refine ⟨by omega, F, h1, h2, fun k sp hk => ?_, h4⟩
  obtain ⟨rp, e, hbs, hne, hp⟩ := h3 k sp hk
  exact ⟨rp, e, by omega, hne, hp⟩
def CloneRel (w : World) (T : Tree) (tp : Nat) (F : Int → Option (Int × Bool × Option Nat)) (wr : World) : Prop :=
  ∃ (left : Int → Bool) (cnt n : Nat) (F' : Int → Option (Int × Bool × Option Nat)), RangeAt codS wr tp (w.heap.size + 1) F left cnt ∧ MapAt codS wr w.heap.size n F' ∧ n + cnt ≤ 15 ∧
    (∀ k, left k = true → F' k = none) ∧ (∀ k, T k = none → F' k = none) ∧
    (∀ k sp, T k = some sp → left k = false → ∃ rp, F' k = some (sp.q, sp.sl, some rp) ∧ w.heap.size + 2 ≤ rp ∧ PagesAt wr rp sp.pages) ∧
    (∀ k k' q s q' s' rp, F' k = some (q, s, some rp) → F' k' = some (q', s', some rp) → k = k') ∧
    (∀ k q s rp, F' k = some (q, s, some rp) → rp < wr.heap.size) ∧ Below w.heap.size w wr
set_option maxRecDepth 100000
set_option maxHeartbeats 1600000
theorem tclone_any (T : Tree) (hT : WfT T) (b0 tp : Nat) (w : World) (h : TreeAt b0 w tp T) : Calls Try.prog 42 #[.map (some tp)] w fun e w' => e = .returned (.map (some w.heap.size)) ∧ TreeAt w.heap.size w' w.heap.size T ∧ Below w.heap.size w w' := by
  have htp := h.lt
  obtain ⟨_, F, hM, hP1, hP2, hP3⟩ := h
  have HM := Lib.hid (hM.below ((Below.refl _ _).alloc (Nat.le_refl _) (.map #[] 0)))
  have hmm := @run_makeMap Try.prog
  go_enter Try.func42, Try.ntmps42
  go_wp2_with (first | (at_range; refine range_map rfl _ 92 rfl 109 und92 rfl HM.out ?_; intro w1 cnt hcnt hR hB hsz))
  go_frame
  have hsz0 : (w.alloc (.map #[] 0)).heap.size = w.heap.size + 1 := by simp
  rw [hsz0] at hR hsz ⊢
  have hB0 : Below w.heap.size w w1 := ((Below.refl w.heap.size w).alloc (Nat.le_refl _) (.map #[] 0)).trans (hB.mono (by omega))
  have hOut : MapAt codS w1 w.heap.size 0 (fun _ => none) := (MapAt.new codS w).below hB
  have HB0 := Lib.hid hB0
  have HR := Lib.hid hR
  have HO := Lib.hid hOut
  have HP1 := Lib.hid hP1
  have HP2 := Lib.hid hP2
  clear hB0 hR hOut hB hP1 hP2
  go_loopw [4] (fun _ wr => CloneRel w T tp F wr) (fun _ wr => wr.rangeLeft tp (w.heap.size + 1))
  case atStart =>
    refine ⟨_, cnt, 0, _, HR.out, HO.out, by omega, fun _ _ => rfl, fun _ _ => rfl, fun k sp hk hl => ?_, fun _ _ _ _ _ _ _ h => (by cases h), fun _ _ _ _ h => (by cases h), HB0.out⟩
    obtain ⟨rp, e, _⟩ := HP2.out k sp hk
    rw [e] at hl
    cases hl
  case round =>
    obtain ⟨left, c1, n, F', hR1, hO1, hnc, hl1, hl2, hl3, hl4, hl5, hB1⟩ := hrel
    have HR1 := Lib.hid hR1
    have HO1 := Lib.hid hO1
    have HL1 := Lib.hid hl1
    have HL2 := Lib.hid hl2
    have HL3 := Lib.hid hl3
    have HL4 := Lib.hid hl4
    have HL5 := Lib.hid hl5
    have HB1 := Lib.hid hB1
    clear hR1 hO1 hl1 hl2 hl3 hl4 hl5 hB1
    go_wp2_with (first | (at_next; refine next_map rfl _ rfl rfl HR1.out (fun hl0 => ?_) (fun x v w2 c2 hx hlx hfx hR2 hlt hM2 hs2 hen => ?_); rotate_left; (obtain ⟨sp, hsp⟩ : ∃ sp, T x = some sp := (by cases hT : T x with | none => (rw [HP1.out x hT] at hfx; cases hfx) | some sp => exact ⟨sp, rfl⟩); obtain ⟨rp, e, hrp0, hrpt, hpg⟩ := HP2.out x sp hsp; rw [e] at hfx; obtain rfl := Option.some.inj hfx; have HR2 := Lib.hid hR2; have HM2 := Lib.hid hM2; have HPG := Lib.hid hpg; have Hsp := Lib.hid hsp; have Hlx := Lib.hid hlx; clear hR2 hM2 hpg hsp e hlx hfx; simp only [codS] at hen ⊢); rotate_left))
    · go_ret
      refine ⟨rfl, ⟨Nat.le_refl _, F', HO1.out.mono (by omega), HL2.out, fun k sp hk => ?_, HL4.out⟩, HB1.out⟩
      obtain ⟨rp, e, h1, h2⟩ := HL3.out k sp hk (hl0 k (hT.i64 hk))
      exact ⟨rp, e, by omega, by omega, h2⟩
    · have hws : w.heap.size < wr.heap.size := HO1.out.lt
      have hwr : w.heap.size + 1 < wr.heap.size := HR1.out.lt.1
      have hB2 : Below w.heap.size w w2 := HB1.out.trans (HM2.out.below (by omega) (fun i hi e => by omega))
      have HB3 := Lib.hid (hB2.alloc (by omega) (.cells #[.int .i64 sp.q, .bool sp.sl, .map (some rp)] 109))
      obtain ⟨G, hG1, hG2⟩ := HPG.out
      have hG3 : MapAt codL (w2.alloc (.cells #[.int .i64 sp.q, .bool sp.sl, .map (some rp)] 109)) rp 1024 G := hG1.same (HB3.out.block rp hG1.lt)
      refine (clone_any codL rp 1024 G _ hG3).mono ?_
      have hbk := Blk.new w2 #[.int .i64 sp.q, .bool sp.sl, .map (some rp)] 109
      have hsz2 : (w2.alloc (.cells #[.int .i64 sp.q, .bool sp.sl, .map (some rp)] 109)).heap.size = wr.heap.size + 1 := by simp [hs2]
      rw [hs2] at hbk
      rw [hsz2]
      rintro e w3 ⟨rfl, hG4, hB4, hs3⟩
      have hbk3 := hbk.below (by rw [hsz2]; exact hB4)
      have HB5 := Lib.hid (HB3.out.trans (hB4.mono (by omega)))
      have d0 := hbk3.cell 0
      have d1 := hbk3.cell 1
      have d2 := hbk3.cell 2
      have f2 := hbk3.free 2
      simp at d0 d1 d2
      have hB24 : Below wr.heap.size w2 w3 := by
        rw [← hs2]
        exact ((Below.refl w2.heap.size w2).alloc (Nat.le_refl _) _).trans (hB4.mono (by omega))
      have HO4 := Lib.hid (((HO1.out.kept HM2.out (by omega)).same (hB24.block _ hws)).far (p := ⟨wr.heap.size, 2, none⟩) (by simp; omega) (.map (some (wr.heap.size + 1))))
      have HR4 := Lib.hid ((HR2.out.kept (hB24.block _ (Nat.lt_trans htp hws)) (hB24.block _ hwr)).kept (Below.heap_setCell w3 ⟨wr.heap.size, 2, none⟩ (.map (some (wr.heap.size + 1))) tp (by simp; omega)) (Below.heap_setCell w3 ⟨wr.heap.size, 2, none⟩ (.map (some (wr.heap.size + 1))) (w.heap.size + 1) (by simp; omega)))
      clear hB24 hbk3 hbk
      go_wp2_with (first | (at_mapUpdate; refine update_map rfl _ _ _ 92 rfl 109 und92 HO4.out (by omega) x hx (sp.q, sp.sl, some (wr.heap.size + 1)) rfl rfl rfl ?_; intro w5 hO5 hM5 hs5))
      go_light
      have hbw : Below wr.heap.size w2 w3 := by
        rw [← hs2]
        exact ((Below.refl w2.heap.size w2).alloc (Nat.le_refl _) _).trans (hB4.mono (by omega))
      have hR5 := HR4.out.mut hM5 (by omega) (by omega)
      have hs5' : w5.heap.size = wr.heap.size + 2 := by rw [hs5]; simp [World.setCell, hs3]
      have keep : ∀ i, i < wr.heap.size → i ≠ w.heap.size → i ≠ w.heap.size + 1 → w5.heap[i]? = wr.heap[i]? := fun i h1 h2 h3 => by
        rw [hM5.block i (by simp [World.setCell, hs3]; omega) h2, Below.heap_setCell w3 ⟨wr.heap.size, 2, none⟩ _ i (by simp; omega), hbw.block i h1, HM2.out.block i h1 h3]
      refine ⟨⟨_, _, _, _, _, _, _, _, _, _, _, _, _, _, ⟨_, c2, n + 1, _, hR5, hO5, by omega, fun k hk => ?_, fun k hk => ?_, fun k sp' hk hl => ?_, fun k k' q s q' s' rp1 e1 e2 => ?_, fun k q s rp1 e1 => ?_, ?_⟩, rfl⟩, ?_⟩
      · have hkx : k ≠ x := fun e => by subst e; simp at hk
        rw [up_other _ _ hkx]
        exact HL1.out k (by simp at hk; exact hk.1)
      · have hkx : k ≠ x := fun e => by subst e; rw [Hsp.out] at hk; cases hk
        rw [up_other _ _ hkx]
        exact HL2.out k hk
      · by_cases hkx : k = x
        · subst hkx
          rw [Hsp.out] at hk
          obtain rfl := Option.some.inj hk
          refine ⟨wr.heap.size + 1, up_same _ _ _, by omega, G, ?_, hG2⟩
          exact (hG4.far (p := ⟨wr.heap.size, 2, none⟩) (by simp) _).kept hM5 (by omega)
        · rw [up_other _ _ hkx]
          have hl' : left k = false := by simpa [hkx] using hl
          obtain ⟨rp1, e, h1, h2⟩ := HL3.out k sp' hk hl'
          exact ⟨rp1, e, h1, h2.same (keep _ h2.lt (by omega) (by omega))⟩
      · by_cases hkx : k = x
        · by_cases hkx' : k' = x
          · rw [hkx, hkx']
          · subst hkx
            rw [up_same] at e1
            rw [up_other _ _ hkx'] at e2
            have := HL5.out _ _ _ _ e2
            simp at e1
            omega
        · by_cases hkx' : k' = x
          · subst hkx'
            rw [up_same] at e2
            rw [up_other _ _ hkx] at e1
            have := HL5.out _ _ _ _ e1
            simp at e2
            omega
          · rw [up_other _ _ hkx] at e1
            rw [up_other _ _ hkx'] at e2
            exact HL4.out _ _ _ _ _ _ _ e1 e2
      · by_cases hkx : k = x
        · subst hkx
          rw [up_same] at e1
          simp at e1
          omega
        · rw [up_other _ _ hkx] at e1
          have := HL5.out _ _ _ _ e1
          omega
      · exact (HB5.out.setCell (p := ⟨wr.heap.size, 2, none⟩) (by simp; omega) _).trans (hM5.below (by simp [World.setCell, hs3]; omega) (fun i hi e => by omega))
      · rw [hR5.left_eq, HR1.out.left_eq]
        exact hlt
end Go.Proofs.Yteilmbhnbmmcjaa.B
