/- Helper: whether a tree fits, walked. what a record does to a tree, walked. what a record does to a tree, walked. what sealing does to a tree, walked. the plain device in memory: made, begun, ended, read; walked. No condition. -/
import Derived.Test.YticnmogeknlmeaaGreatDoorN16
import Derived.Test.YticnmogeknlmeaaGreatDoorN15
import Derived.Test.YticnmogeknlmeaaGreatDoorN01
namespace Go.Proofs.YticnmogeknlmeaaGreatDoor.B
open Go.RowKit Go.Maps Go.Proofs.YticnmogeknlmeaaGreatDoorW.PrintWords
theorem MapAt.exact {α : Type} {c : Cod α} {w : World} {b n : Nat} {f : Int → Option α} (h : MapAt c w b n f) : ∃ m, m ≤ n ∧ MapAt c w b m f ∧ ∀ (w' : World) (t e ty : TypeId), Tryz.prog.underlying t = some (.map 3 e) → w'.heap[b]? = w.heap[b]? → (Builtin.len_ #[t] ty #[.map (some b)]).run Tryz.prog w' = .ok (.int .i64 m) w' := by
  obtain ⟨D, h1, h2⟩ := h
  refine ⟨Maps.size D, h1.size_le, ⟨D, ?_, h2⟩, fun w' t e ty ht he => ?_⟩
  · obtain ⟨es, clock, hb, F, _, rfl⟩ := h1
    exact ⟨es, clock, hb, F, by simp [Maps.size, length_sorted], rfl⟩
  · obtain ⟨es, clock, hb, r⟩ := h1
    have h3 : w'.ownsMap Tryz.prog 3 c.R b n D := ⟨es, clock, he.trans hb, r⟩
    exact h3.len ht ty
/-- How many pages a tree's spaces may have, all together. -/
def qOf (T : Tree) (k : Int) : Nat := match T k with
  | some sp => sp.q.toNat
  | none => 0
def sumTo (g : Int → Nat) : Nat → Nat
  | 0 => 0
  | n + 1 => sumTo g n + g (n + 1)
def tot (T : Tree) (P : Int → Bool) : Nat := sumTo (fun k => if P k then qOf T k else 0) 15
theorem sumTo_congr {g h : Int → Nat} : ∀ n : Nat, (∀ k : Int, 1 ≤ k → k ≤ n → g k = h k) → sumTo g n = sumTo h n
  | 0, _ => rfl
  | n + 1, e => by
    rw [sumTo, sumTo, sumTo_congr n (fun k h1 h2 => e k h1 (by omega)), e (n + 1) (by omega) (by omega)]
theorem sumTo_step {g h : Int → Nat} (x : Int) (d : Nat) : ∀ n : Nat, 1 ≤ x → x ≤ n → (∀ k : Int, k ≠ x → h k = g k) → h x = g x + d → sumTo h n = sumTo g n + d
  | 0, h1, h2, _, _ => by omega
  | n + 1, h1, h2, e, ex => by
    rw [sumTo, sumTo]
    by_cases hx : x = n + 1
    · subst hx
      rw [ex, sumTo_congr n (fun k _ hk => e k (by omega))]
      omega
    · rw [sumTo_step x d n h1 (by omega) e ex, e (n + 1) (fun h => hx h.symm)]
      omega
theorem tot_step {T : Tree} (hT : WfT T) {x : Int} {sp : Sp} (hx : T x = some sp) {left : Int → Bool} (hl : left x = true) : tot T (fun k => !(left k && !(k == x))) = tot T (fun k => !left k) + sp.q.toNat := by
  have hw := hT x sp hx
  refine sumTo_step x _ 15 hw.1 (by omega) (fun k hk => ?_) ?_
  · simp [hk]
  · simp [hl, qOf, hx]
theorem tot_le (T : Tree) (P : Int → Bool) : tot T P ≤ tot T (fun _ => true) := by
  unfold tot
  have : ∀ n, sumTo (fun k => if P k then qOf T k else 0) n ≤ sumTo (fun k => if true then qOf T k else 0) n := by
    intro n
    induction n with
    | zero => exact Nat.le_refl _
    | succ n ih =>
      rw [sumTo, sumTo]
      have : (if P (n + 1) then qOf T (n + 1) else 0) ≤ qOf T (n + 1) := by split <;> omega
      simp only [if_true] at ih ⊢
      omega
  exact this 15
def total (T : Tree) : Nat := tot T (fun _ => true)
theorem pages_dom {T : Tree} (hT : WfT T) {x : Int} {sp : Sp} (hsp : T x = some sp) {G : Int → Option (ByteArray × Int)} (hG : ∀ p, (G p).map (·.1) = sp.pages p) : ∀ k, I64 k → G k ≠ none → 0 ≤ k ∧ k < 0 + (sp.q.toNat : Int) := by
  intro k _ hk
  have h6 := (hT x sp hsp).2.2.1
  have h5 := hG k
  cases hg : G k with
  | none => exact absurd hg hk
  | some u =>
    rw [hg] at h5
    have := (hT x sp hsp).2.2.2.2 k _ h5.symm
    omega
def FitsRel (w : World) (T : Tree) (RM : Array Value) (tp : Nat) (F : Int → Option (Int × Bool × Option Nat)) (x : Value) (wr : World) : Prop :=
  ∃ (left : Int → Bool) (cnt n s : Nat) (fb : Int → Option Bool), RangeAt codS wr tp (w.heap.size + 2) F left cnt ∧ MapAt codB wr (w.heap.size + 1) n fb ∧ n ≤ s ∧ x = .int .i64 s ∧ s ≤ tot T (fun k => !left k) ∧ Below w.heap.size w wr ∧ Blk wr w.heap.size RM 64
def FitsIn (w : World) (RM : Array Value) (tp rp r2 s : Nat) (F : Int → Option (Int × Bool × Option Nat)) (G : Int → Option (ByteArray × Int)) (left : Int → Bool) (cnt : Nat) (wr : World) : Prop :=
  ∃ (left2 : Int → Bool) (cnt2 n2 : Nat) (fb : Int → Option Bool), RangeAt codL wr rp r2 G left2 cnt2 ∧ MapAt codB wr (w.heap.size + 1) n2 fb ∧ n2 + cnt2 ≤ s ∧ RangeAt codS wr tp (w.heap.size + 2) F left cnt ∧ Below w.heap.size w wr ∧ Blk wr w.heap.size RM 64
set_option maxRecDepth 100000
set_option maxHeartbeats 1600000
theorem fits_any (T : Tree) (hT : WfT T) (b0 tp : Nat) (w : World) (h : TreeAt b0 w tp T) (pl ks rs ss : Int) (h1 : (total T : Int) ≤ pl) (h2 : (total T : Int) ≤ ks) (h3 : total T < 100000) : Calls Tryz.prog 147 #[.map (some tp), .agg #[.int .i64 pl, .int .i64 ks, .int .i64 rs, .int .i64 ss]] w fun e w' => e = .returned (.bool true) ∧ Below w.heap.size w w' := by
  have htp := h.lt
  obtain ⟨_, F, hM, hP1, hP2, hP3⟩ := h
  have hB0 : Below w.heap.size w ((w.alloc (.cells #[.int .i64 pl, .int .i64 ks, .int .i64 rs, .int .i64 ss] 64)).alloc (.map #[] 0)) := ((Below.refl w.heap.size w).alloc (Nat.le_refl _) _).alloc (by simp) _
  have HM := Lib.hid (hM.below hB0)
  have HB0 := Lib.hid hB0
  have HP1 := Lib.hid hP1
  have HP2 := Lib.hid hP2
  clear hB0 hP1 hP2 hM
  have hmm := @run_makeMap Tryz.prog
  go_enter Tryz.func147, Tryz.ntmps147
  go_wp2_with (first | (at_range; refine range_map rfl _ 116 rfl 207 und92 rfl HM.out ?_; intro w1 cnt hcnt hR hB hsz))
  go_frame
  obtain ⟨RM, hRM⟩ : ∃ RM : Array Value, RM = #[.int .i64 pl, .int .i64 ks, .int .i64 rs, .int .i64 ss] := ⟨_, rfl⟩
  have hsz0 : ((w.alloc (.cells RM 64)).alloc (.map #[] 0)).heap.size = w.heap.size + 2 := by simp
  rw [hRM] at hsz0
  rw [hsz0] at hR hsz ⊢
  have hB1 : Below w.heap.size w w1 := HB0.out.trans (hB.mono (by omega))
  have hOut : MapAt codB w1 (w.heap.size + 1) 0 (fun _ => none) := by
    have := (MapAt.new codB (w.alloc (.cells RM 64)))
    rw [show (w.alloc (.cells RM 64)).heap.size = w.heap.size + 1 by simp, hRM] at this
    exact this.below hB
  have hBk : Blk w1 w.heap.size RM 64 := by
    have h1 := (Blk.new w RM 64).below ((Below.refl (w.alloc (.cells RM 64)).heap.size _).alloc (Nat.le_refl _) (.map #[] 0))
    rw [hRM] at h1 ⊢
    exact h1.below hB
  have HB1 := Lib.hid hB1
  have HR := Lib.hid hR
  have HO := Lib.hid hOut
  have HK := Lib.hid hBk
  have HRM := Lib.hid hRM
  clear hB1 hR hOut hB hBk
  go_loopw [5] (fun x wr => FitsRel w T RM tp F x wr) (fun _ wr => wr.rangeLeft tp (w.heap.size + 2))
  case atStart => exact ⟨_, cnt, 0, 0, _, HR.out, HO.out, Nat.le_refl _, rfl, Nat.zero_le _, HB1.out, HK.out⟩
  case round =>
    obtain ⟨left, c1, n, s, fb, hR1, hO1, hns, rfl, hst, hB2, hK2⟩ := hrel
    have hsT : s ≤ total T := Nat.le_trans hst (tot_le T _)
    have HR1 := Lib.hid hR1
    have HO1 := Lib.hid hO1
    have HS := Lib.hid hst
    have HB2 := Lib.hid hB2
    have HK2 := Lib.hid hK2
    clear hR1 hO1 hst hB2 hK2
    have hK3 := HK2.out.cell 1
    have hK4 := HK2.out.cell 0
    rw [HRM.out] at hK3 hK4
    have k1 : _ = some (Value.int .i64 ks) := hK3
    have k0 : _ = some (Value.int .i64 pl) := hK4
    clear hK3 hK4
    obtain ⟨mm, hmn, _, hlen⟩ := HO1.out.exact
    have hlen0 := hlen wr 217 4 3 und157 rfl
    clear hlen
    have hle1 : (s : Int) ≤ ks := by omega
    have hle2 : (mm : Int) ≤ pl := by omega
    go_wp2_with (first
      | (at_next; refine next_map rfl _ rfl rfl HR1.out (fun hl0 => ?_) (fun x v w2 c2 hx hlx hfx hR2 hlt hM2 hs2 hen => ?_); rotate_left; (obtain ⟨sp, hsp⟩ : ∃ sp, T x = some sp := (by cases hT : T x with | none => (rw [HP1.out x hT] at hfx; cases hfx) | some sp => exact ⟨sp, rfl⟩); obtain ⟨rp, e, hrp0, hrpt, hpg⟩ := HP2.out x sp hsp; rw [e] at hfx; obtain rfl := Option.some.inj hfx; obtain ⟨G, hG1, hG2, hG3⟩ := hpg; have hG4 := hG1.tight (lo := 0) (q := sp.q.toNat) (pages_dom hT hsp hG2); have hq0 := (hT x sp hsp).2.2.1; have hq1 := (hT x sp hsp).2.2.2.1; have hwr : w.heap.size + 2 < wr.heap.size := HR1.out.lt.1; have hB3 : Below w.heap.size w (w2.alloc (.cells #[.int .i64 sp.q, .bool sp.sl, .map (some rp)] 207)) := (HB2.out.trans (hM2.below (by omega) (fun i hi e => by omega))).alloc (by omega) _; obtain ⟨m, hmq, hG5, hlen⟩ := hG4.exact; have hlen2 := hlen _ 205 203 3 und107 (hB3.block rp hG1.lt); have HGA := Lib.hid (hG5.same (hB3.block rp hG1.lt)); have Hrp := Lib.hid hG1.lt; have hstep := tot_step hT hsp hlx; have hstot := tot_le T (fun k => !(left k && !(k == x))); have Hstep := Lib.hid hstep; have Hstot := Lib.hid hstot; have HG3 := Lib.hid hG3; have HB3 := Lib.hid hB3; have HR2 := Lib.hid hR2; have HM2 := Lib.hid hM2; have Hsp := Lib.hid hsp; have Hlx := Lib.hid hlx; clear hR2 hM2 hsp e hlx hfx hG1 hG2 hG3 hG4 hG5 hlen hB3 hstep hstot; simp only [codS] at hen ⊢); rotate_left)
      | (at_range; refine range_map rfl _ 205 rfl 203 und107 rfl HGA.out ?_; intro w3 c3 hc3 hR3 hB3 hs3; have HR3 := Lib.hid hR3; have HB4 := Lib.hid hB3; clear hR3 hB3))
    · go_ret
      exact ⟨rfl, HB2.out⟩
    · go_frame
      obtain ⟨wo, rfl⟩ : ∃ wo, wo = wr := ⟨_, rfl⟩
      obtain ⟨wa, hwa⟩ : ∃ wa, wa = w2.alloc (.cells #[.int .i64 sp.q, .bool sp.sl, .map (some rp)] 207) := ⟨_, rfl⟩
      rw [← hwa] at HGA HB3 HR3 HB4 hs3 ⊢
      have hsa : wa.heap.size = wo.heap.size + 1 := by rw [hwa]; simp [hs2]
      rw [hsa] at HR3 HB4 hs3 ⊢
      have hwrl : w.heap.size + 2 < wo.heap.size := HR1.out.lt.1
      have h2a : Below wo.heap.size w2 wa := by rw [hwa, ← hs2]; exact (Below.refl _ _).alloc (Nat.le_refl _) _
      have h24 : Below wo.heap.size w2 w3 := h2a.trans (HB4.out.mono (by omega))
      have HR23 := Lib.hid (HR2.out.kept (h24.block tp (Nat.lt_of_lt_of_le htp (by omega))) (h24.block _ hwrl))
      have HO3 := Lib.hid (((HO1.out.kept HM2.out (by omega)).same (h24.block _ (by omega)) : MapAt codB w3 (w.heap.size + 1) n fb))
      have HK23 := Lib.hid (show Blk w3 w.heap.size RM 64 from (h24.block _ (by omega)).trans ((HM2.out.block _ HK2.out.lt (by omega)).trans HK2.out))
      have HB13 := Lib.hid (HB3.out.trans (HB4.out.mono (by omega)))
      clear h2a h24
      go_loopw [10] (fun _ wr2 => FitsIn w RM tp rp (wo.heap.size + 1) (s + m) F G (fun z => left z && !(z == x)) c2 wr2) (fun _ wr2 => wr2.rangeLeft rp (wo.heap.size + 1))
      case atStart => exact ⟨_, c3, n, fb, HR3.out, HO3.out, by omega, HR23.out, HB13.out, HK23.out⟩
      case round =>
        obtain ⟨left2, d2, n2, fb2, hRi, hOi, hni, hRo, hBi, hKi⟩ := hrel
        have HRi := Lib.hid hRi
        have HOi := Lib.hid hOi
        have HRo := Lib.hid hRo
        have HBi := Lib.hid hBi
        have HKi := Lib.hid hKi
        clear hRi hOi hRo hBi hKi
        have hlm : w.heap.size + 1 ≠ wr.heap.size := fun e => by have := HOi.out.lt; omega
        go_wp2_with (first
          | (at_next; refine next_map rfl _ rfl rfl HRi.out (fun hl0 => ?_) (fun y v w5 c5 hy hly hfy hR5 hlt5 hM5 hs5 hen5 => ?_); rotate_left; (obtain ⟨ls, ln⟩ := v; have hln := HG3.out y ls ln hfy; have HO6 := Lib.hid ((HOi.out.kept hM5 (by omega)).below ((Below.refl _ _).alloc (Nat.le_refl _) (.cells #[.string ls, .int .i64 ln] 203))); have HR5 := Lib.hid hR5; have HM5 := Lib.hid hM5; clear hR5 hM5 hfy hly; simp only [codL] at hen5 ⊢); rotate_left)
          | (at_mapUpdate; refine update_map rfl _ _ _ 217 rfl 4 und157 HO6.out (by omega) ln hln true rfl rfl rfl ?_; intro w7 hO7 hM7 hs7))
        · go_light
          refine ⟨⟨_, c2, n2, s + m, fb2, HRo.out, HOi.out, by omega, by simp, ?_, HBi.out, HKi.out⟩, ?_⟩
          · rw [Hstep.out]
            have := HS.out
            omega
          · rw [HRo.out.left_eq, HR1.out.left_eq]
            exact hlt
        · go_light
          obtain ⟨wb, hwb⟩ : ∃ wb, wb = w5.alloc (.cells #[.string ls, .int .i64 ln] 203) := ⟨_, rfl⟩
          rw [← hwb] at hM7 hs7
          have hb5 : Below w5.heap.size w5 wb := by rw [hwb]; exact (Below.refl _ _).alloc (Nat.le_refl _) _
          have hrp := Hrp.out
          have R7 := (HR5.out.below hb5).mut hM7 (by omega) (by omega)
          have R8 := ((HRo.out.mut HM5.out (by omega) (by omega)).below hb5).mut hM7 (by omega) (by omega)
          have hwl := HBi.out.size
          have hle5 := HM5.out.size
          have hle6 := hb5.size
          constructor
          · repeat apply Exists.intro
            refine ⟨⟨_, c5, n2 + 1, _, R7, hO7, by omega, R8, ?_, ?_⟩, rfl⟩
            · exact ((HBi.out.trans (HM5.out.below hwl (fun i hi e => by omega))).trans (hb5.mono (by omega))).trans (hM7.below (by omega) (fun i hi e => by omega))
            · have k1 : Blk w5 w.heap.size RM 64 := HKi.out.kept HM5.out (by omega)
              exact (k1.below hb5).kept hM7 (by omega)
          · rw [R7.left_eq, HRi.out.left_eq]
            exact hlt5
end Go.Proofs.YticnmogeknlmeaaGreatDoor.B
namespace Go.Proofs.YticnmogeknlmeaaGreatDoor.B
open Go.RowKit Go.Maps Go.Proofs.YticnmogeknlmeaaGreatDoorW.PrintWords
set_option maxRecDepth 100000
set_option maxHeartbeats 1600000
def upT (T : Tree) (k : Int) (v : Option Sp) : Tree := fun i => if i = k then v else T i
theorem upT_same (T : Tree) (k : Int) (v : Option Sp) : upT T k v k = v := by simp [upT]
theorem upT_other (T : Tree) {k i : Int} (v : Option Sp) (h : i ≠ k) : upT T k v i = T i := by simp [upT, h]
theorem dom15 {T : Tree} (hT : WfT T) {F : Int → Option (Int × Bool × Option Nat)} (h : ∀ k, T k = none → F k = none) : ∀ k, I64 k → F k ≠ none → (1 : Int) ≤ k ∧ k < 1 + (15 : Nat) := by
  intro k _ hk
  cases hT' : T k with
  | none => exact absurd (h k hT') hk
  | some sp =>
    have := hT k sp hT'
    constructor
    · exact this.1
    · have := this.2.1; omega
theorem TreeAt.update {base tp rp n : Nat} {w w' : World} {T : Tree} {F : Int → Option (Int × Bool × Option Nat)} {k : Int} {sp : Sp} (hM : MapAt codS w' tp n (up F k (some (sp.q, sp.sl, some rp)))) (h0 : base ≤ tp) (hP : PhysIn base w tp T F) (hpg : PagesAt w' rp sp.pages) (hb : base ≤ rp) (hne : rp ≠ tp)
    (hfr : ∀ k' q s, k' ≠ k → F k' ≠ some (q, s, some rp)) (hkeep : ∀ i, i < w.heap.size → i ≠ tp → i ≠ rp → w'.heap[i]? = w.heap[i]?) (hW : WfT (upT T k (some sp))) : TreeAt base w' tp (upT T k (some sp)) := by
  obtain ⟨h1, h2, h3⟩ := hP
  have hnone : ∀ i, upT T k (some sp) i = none → up F k (some (sp.q, sp.sl, some rp)) i = none := fun i hi => by
    by_cases e : i = k
    · subst e; rw [upT_same] at hi; cases hi
    · rw [upT_other _ _ e] at hi
      rw [up_other _ _ e]
      exact h1 i hi
  refine ⟨h0, _, hM.tight (dom15 hW hnone), hnone, fun i sp' hi => ?_, fun i j q s q' s' r e1 e2 => ?_⟩
  · by_cases e : i = k
    · subst e
      rw [upT_same] at hi
      obtain rfl := Option.some.inj hi
      exact ⟨rp, up_same _ _ _, hb, hne, hpg⟩
    · rw [upT_other _ _ e] at hi
      obtain ⟨r, e1, e2, e3, e4⟩ := h2 i sp' hi
      refine ⟨r, by rw [up_other _ _ e]; exact e1, e2, e3, e4.same (hkeep r e4.lt e3 (fun er => ?_))⟩
      subst er
      exact hfr i _ _ e e1
  · by_cases ei : i = k
    · by_cases ej : j = k
      · rw [ei, ej]
      · subst ei
        rw [up_same] at e1
        rw [up_other _ _ ej] at e2
        simp at e1
        rw [← e1.2.2] at e2
        exact absurd e2 (hfr j _ _ ej)
    · by_cases ej : j = k
      · subst ej
        rw [up_same] at e2
        rw [up_other _ _ ei] at e1
        simp at e2
        rw [← e2.2.2] at e1
        exact absurd e1 (hfr i _ _ ei)
      · rw [up_other _ _ ei] at e1
        rw [up_other _ _ ej] at e2
        exact h3 _ _ _ _ _ _ _ e1 e2
theorem TreeAt.delete {base tp n : Nat} {w w' : World} {T : Tree} {F : Int → Option (Int × Bool × Option Nat)} {k : Int} (hM : MapAt codS w' tp n (up F k none)) (h0 : base ≤ tp) (hP : PhysIn base w tp T F) (hkeep : ∀ i, i < w.heap.size → i ≠ tp → w'.heap[i]? = w.heap[i]?) (hW : WfT (upT T k none)) : TreeAt base w' tp (upT T k none) := by
  obtain ⟨h1, h2, h3⟩ := hP
  have hnone : ∀ i, upT T k none i = none → up F k none i = none := fun i hi => by
    by_cases e : i = k
    · subst e; rw [up_same]
    · rw [upT_other _ _ e] at hi
      rw [up_other _ _ e]
      exact h1 i hi
  refine ⟨h0, _, hM.tight (dom15 hW hnone), hnone, fun i sp' hi => ?_, fun i j q s q' s' r e1 e2 => ?_⟩
  · by_cases e : i = k
    · subst e; rw [upT_same] at hi; cases hi
    · rw [upT_other _ _ e] at hi
      obtain ⟨r, e1, e2, e3, e4⟩ := h2 i sp' hi
      exact ⟨r, by rw [up_other _ _ e]; exact e1, e2, e3, e4.same (hkeep r e4.lt e3)⟩
  · by_cases ei : i = k
    · subst ei; rw [up_same] at e1; cases e1
    · by_cases ej : j = k
      · subst ej; rw [up_same] at e2; cases e2
      · rw [up_other _ _ ei] at e1
        rw [up_other _ _ ej] at e2
        exact h3 _ _ _ _ _ _ _ e1 e2
theorem TreeAt.pages {base tp rp n : Nat} {w w' : World} {T : Tree} {F : Int → Option (Int × Bool × Option Nat)} {k : Int} {sp : Sp} {pg : Int → Option ByteArray} (hM : MapAt codS w' tp n F) (h0 : base ≤ tp) (hP : PhysIn base w tp T F) (hk : T k = some sp) (hF : F k = some (sp.q, sp.sl, some rp)) (hpg : PagesAt w' rp pg) (hkeep : ∀ i, i < w.heap.size → i ≠ rp → w'.heap[i]? = w.heap[i]?) (hW : WfT (upT T k (some { sp with pages := pg }))) : TreeAt base w' tp (upT T k (some { sp with pages := pg })) := by
  obtain ⟨h1, h2, h3⟩ := hP
  have hnone : ∀ i, upT T k (some { sp with pages := pg }) i = none → F i = none := fun i hi => by
    by_cases e : i = k
    · subst e; rw [upT_same] at hi; cases hi
    · rw [upT_other _ _ e] at hi
      exact h1 i hi
  refine ⟨h0, F, hM.tight (dom15 hW hnone), hnone, fun i sp' hi => ?_, h3⟩
  by_cases e : i = k
  · subst e
    rw [upT_same] at hi
    obtain rfl := Option.some.inj hi
    obtain ⟨r, e1, e2, e3, e4⟩ := h2 i sp hk
    rw [hF] at e1
    simp at e1
    subst e1
    exact ⟨rp, hF, e2, e3, hpg⟩
  · rw [upT_other _ _ e] at hi
    obtain ⟨r, e1, e2, e3, e4⟩ := h2 i sp' hi
    refine ⟨r, e1, e2, e3, e4.same (hkeep r e4.lt (fun er => e ?_))⟩
    subst er
    exact h3 _ _ _ _ _ _ _ e1 hF
def mayE (T : Tree) (id : Int) : Int := match T id with
  | none => 80
  | some sp => if sp.sl then 170 else 0
theorem phys_look {base tp : Nat} {w : World} {T : Tree} {F : Int → Option (Int × Bool × Option Nat)} (hM : MapAt codS w tp 15 F) (hP : PhysIn base w tp T F) {id : Int} (hid : I64 id) :
    (T id = none ∧ (∀ c : Bool, (Instr.lookup 116 (.map (some tp)) (.int .i64 id) c).run Tryz.prog w = .ok (if c then .tuple #[.agg #[.int .i64 0, .bool false, .map none], .bool false] else .agg #[.int .i64 0, .bool false, .map none]) w)) ∨
    ∃ sp rp, T id = some sp ∧ F id = some (sp.q, sp.sl, some rp) ∧ base ≤ rp ∧ rp ≠ tp ∧ PagesAt w rp sp.pages ∧ (∀ c : Bool, (Instr.lookup 116 (.map (some tp)) (.int .i64 id) c).run Tryz.prog w = .ok (if c then .tuple #[.agg #[.int .i64 sp.q, .bool sp.sl, .map (some rp)], .bool true] else .agg #[.int .i64 sp.q, .bool sp.sl, .map (some rp)]) w) := by
  have hl := hM.look und92 (zero109 w) hid
  cases hT : T id with
  | none =>
    rw [hP.1 id hT] at hl
    exact Or.inl ⟨rfl, fun c => by cases c; exact hl.2; exact hl.1⟩
  | some sp =>
    obtain ⟨rp, e1, e2, e3, e4⟩ := hP.2.1 id sp hT
    rw [e1] at hl
    exact Or.inr ⟨sp, rp, rfl, e1, e2, e3, e4, fun c => by cases c; exact hl.2; exact hl.1⟩
theorem may_any (T : Tree) (base tp : Nat) (w : World) (h : TreeAt base w tp T) (id : Int) (hid : I64 id) : Calls Tryz.prog 138 #[.map (some tp), .int .i64 id] w fun e w' => e = .returned (.int .i64 (mayE T id)) ∧ Below w.heap.size w w' := by
  obtain ⟨_, F, hM, hP⟩ := h
  have hB := Below.refl w.heap.size w
  rcases phys_look hM hP hid with ⟨hn, hl⟩ | ⟨sp, rp, hs, _, _, _, _, hl⟩
  · have hl1 := hl true
    simp only [if_true] at hl1
    clear hl hP hM
    have e : mayE T id = 80 := by simp [mayE, hn]
    rw [e]
    go_enter Tryz.func138, Tryz.ntmps138
    go_wp2
    go_ret
    exact ⟨rfl, hB.alloc (Nat.le_refl _) _⟩
  · have hl1 := hl true
    simp only [if_true] at hl1
    clear hl hP hM
    have e : mayE T id = if sp.sl then 170 else 0 := by simp [mayE, hs]
    rw [e]
    cases hsl : sp.sl
    · rw [hsl] at hl1
      go_enter Tryz.func138, Tryz.ntmps138
      go_wp2
      go_ret
      exact ⟨rfl, hB.alloc (Nat.le_refl _) _⟩
    · rw [hsl] at hl1
      go_enter Tryz.func138, Tryz.ntmps138
      go_wp2
      go_ret
      exact ⟨rfl, hB.alloc (Nat.le_refl _) _⟩
end Go.Proofs.YticnmogeknlmeaaGreatDoor.B
namespace Go.Proofs.YticnmogeknlmeaaGreatDoor.B
open Go.RowKit Go.Maps Go.Proofs.YticnmogeknlmeaaGreatDoorW.PrintWords
set_option maxRecDepth 100000
set_option maxHeartbeats 1600000
def noPages : Int → Option ByteArray := fun _ => none
/-- What a record does to a tree: the error, and the tree behind it. -/
def doT (T : Tree) (r : Rc) : Int × Tree :=
  match T r.s with
  | none => if r.k = 4 then (0, upT T r.s (some ⟨r.n, false, noPages⟩)) else (80, T)
  | some sp =>
    if r.k = 4 then (80, T)
    else if r.k = 5 then (0, upT T r.s none)
    else if r.k = 6 then (if (T r.t).isSome then (80, T) else (0, upT T r.t (some ⟨sp.q, false, sp.pages⟩)))
    else if r.k = 7 then (0, upT T r.s (some { sp with sl := true }))
    else if (sp.pages r.p).isSome then (0, upT T r.s (some { sp with pages := fun i => if i = r.p then none else sp.pages i }))
    else (81, T)
def DoPost (base tp : Nat) (w : World) (x : Int × Tree) (e : Ending) (w' : World) : Prop :=
  e = .returned (.int .i64 x.1) ∧ Below base w w' ∧ (x.1 = 0 → TreeAt base w' tp x.2)
theorem do_none (T : Tree) (base tp : Nat) (w : World) (h : TreeAt base w tp T) (hb : base ≤ w.heap.size) (r : Rc) (hk : r.k ≠ 4) (hs : I64 r.s) (hn : T r.s = none) : Calls Tryz.prog 141 #[.map (some tp), .agg r.cells] w (DoPost base tp w (doT T r)) := by
  have hx : doT T r = (80, T) := by simp [doT, hn, hk]
  have hB0 : Below w.heap.size w (w.alloc (.cells #[.int .i64 r.k, .int .i64 r.s, .int .i64 r.p, .int .i64 r.a, .int .i64 r.t, .int .i64 r.n] 100)) := (Below.refl _ _).alloc (Nat.le_refl _) _
  obtain ⟨_, F, hM, hP⟩ := h.below hB0
  rcases phys_look hM hP hs with ⟨_, hl⟩ | ⟨sp, rp, hs, _⟩
  · have hl1 := hl true
    simp only [if_true] at hl1
    have hkb : (r.k == 4) = false := beq_eq_false_iff_ne.2 hk
    clear hl hP hM
    show Calls Tryz.prog 141 #[.map (some tp), .agg #[.int .i64 r.k, .int .i64 r.s, .int .i64 r.p, .int .i64 r.a, .int .i64 r.t, .int .i64 r.n]] w _
    rw [hx]
    go_enter Tryz.func141, Tryz.ntmps141
    go_wp2
    go_ret
    exact ⟨rfl, (hB0.alloc (by simp) _).mono hb, fun h => (by simp at h)⟩
  · rw [hn] at hs; cases hs
theorem do_4 (T : Tree) (base tp : Nat) (w : World) (h : TreeAt base w tp T) (hb : base ≤ w.heap.size) (r : Rc) (hk : r.k = 4) (hs : I64 r.s) (hW : WfT (doT T r).2) : Calls Tryz.prog 141 #[.map (some tp), .agg r.cells] w (DoPost base tp w (doT T r)) := by
  have hB0 : Below w.heap.size w (w.alloc (.cells #[.int .i64 4, .int .i64 r.s, .int .i64 r.p, .int .i64 r.a, .int .i64 r.t, .int .i64 r.n] 100)) := (Below.refl _ _).alloc (Nat.le_refl _) _
  have htp := h.lt
  obtain ⟨h0, F, hM, hP⟩ := h.below hB0
  have hmm := @run_makeMap Tryz.prog
  have hcell : r.cells = #[.int .i64 4, .int .i64 r.s, .int .i64 r.p, .int .i64 r.a, .int .i64 r.t, .int .i64 r.n] := by rw [← hk]; rfl
  rw [hcell]
  rcases phys_look hM hP hs with ⟨hn, hl⟩ | ⟨sp, rp, hsm, _, _, _, _, hl⟩
  · have hx : doT T r = (0, upT T r.s (some ⟨r.n, false, noPages⟩)) := by simp [doT, hn, hk]
    rw [hx] at hW ⊢
    have hl1 := hl true
    simp only [if_true] at hl1
    have HP := Lib.hid hP
    have HB1 := Lib.hid ((hB0.alloc (by simp) (.cells #[.int .i64 0, .bool false, .map none] 207)).alloc (by simp; omega) (.map #[] 0))
    obtain ⟨wa, hwa⟩ : ∃ wa, wa = (w.alloc (.cells #[.int .i64 4, .int .i64 r.s, .int .i64 r.p, .int .i64 r.a, .int .i64 r.t, .int .i64 r.n] 100)) := ⟨_, rfl⟩
    have hsa : wa.heap.size = w.heap.size + 1 := by rw [hwa]; simp
    have HBa := Lib.hid (((Below.refl wa.heap.size wa).alloc (Nat.le_refl _) (.cells #[.int .i64 0, .bool false, .map none] 207)).alloc (by simp) (.map #[] 0))
    have HMa := Lib.hid hM
    rw [← hwa] at HMa HP
    have HM := Lib.hid (HMa.out.below HBa.out)
    have hG := MapAt.new codL (wa.alloc (.cells #[.int .i64 0, .bool false, .map none] 207))
    rw [show (wa.alloc (.cells #[.int .i64 0, .bool false, .map none] 207)).heap.size = w.heap.size + 2 by simp [hsa]] at hG
    have HG := Lib.hid hG
    clear hG
    rw [hwa] at HM HG
    clear hl hP hM HMa
    go_enter Tryz.func141, Tryz.ntmps141
    go_wp2_with (first | (at_mapUpdate; refine update_map rfl _ _ _ 116 rfl 207 und92 HM.out (by omega) r.s hs (r.n, false, some (w.heap.size + 2)) rfl rfl rfl ?_; intro w5 hO5 hM5 hs5))
    go_ret
    refine ⟨rfl, (HB1.out.mono hb).trans (hM5.below (by simp; omega) (fun i hi e => by omega)), fun _ => ?_⟩
    rw [← hwa] at hM5 hs5 HG
    refine TreeAt.update hO5 h0 HP.out ?_ (by omega) (by omega) ?_ ?_ hW
    · exact ⟨_, ((HG.out.mono (by omega)).kept hM5 (by omega)), fun _ => rfl, fun _ _ _ h => (by cases h)⟩
    · intro k' q s hne e
      cases hT' : T k' with
      | none => rw [HP.out.1 k' hT'] at e; cases e
      | some sp' =>
        obtain ⟨rp', e1, _, _, e4⟩ := HP.out.2.1 k' sp' hT'
        rw [e] at e1
        simp at e1
        have := e4.lt
        omega
    · intro i hi h1 h2
      rw [hM5.block i (by simp; omega) h1]
      exact HBa.out.block i hi
  · have hx : doT T r = (80, T) := by simp [doT, hsm, hk]
    rw [hx]
    have hl1 := hl true
    simp only [if_true] at hl1
    clear hl hP hM
    go_enter Tryz.func141, Tryz.ntmps141
    go_wp2
    go_ret
    exact ⟨rfl, (hB0.alloc (by simp) _).mono hb, fun h => (by simp at h)⟩
end Go.Proofs.YticnmogeknlmeaaGreatDoor.B
namespace Go.Proofs.YticnmogeknlmeaaGreatDoor.B
open Go.RowKit Go.Maps Go.Proofs.YticnmogeknlmeaaGreatDoorW.PrintWords
set_option maxRecDepth 100000
set_option maxHeartbeats 1600000
end Go.Proofs.YticnmogeknlmeaaGreatDoor.B
namespace Go.Proofs.YticnmogeknlmeaaGreatDoor.B
open Go.RowKit Go.Maps Go.Proofs.YticnmogeknlmeaaGreatDoorW.PrintWords
set_option maxRecDepth 100000
set_option maxHeartbeats 1600000
/-- The plain device. -/
structure Md where
  now : Tree
  opn : Option Tree
  pl : Int
  ks : Int
  rs : Int
  ss : Int
  size : Int
  many : Int
def optAt (w : World) (o : Option Nat) : Option Tree → Prop
  | none => o = none
  | some T => ∃ tp, o = some tp ∧ TreeAt 0 w tp T ∧ WfT T
def mdCells (np : Nat) (oo : Option Nat) (M : Md) (n : Int) : Array Value := #[.map (some np), .map oo, .int .i64 M.pl, .int .i64 M.ks, .int .i64 M.rs, .int .i64 M.ss, .int .i64 M.size, .int .i64 M.many, .int .i64 n]
def MdAt (w : World) (a : Nat) (M : Md) : Prop :=
  ∃ np oo n, Blk w a (mdCells np oo M n) 118 ∧ TreeAt 0 w np M.now ∧ WfT M.now ∧ optAt w oo M.opn ∧ I64 n
theorem optAt.below {w w' : World} {o : Option Nat} {T : Option Tree} (h : optAt w o T) (hb : Below w.heap.size w w') : optAt w' o T := by
  cases T with
  | none => exact h
  | some T => obtain ⟨tp, h1, h2, h3⟩ := h; exact ⟨tp, h1, h2.below hb, h3⟩
theorem MdAt.below {w w' : World} {a : Nat} {M : Md} (h : MdAt w a M) (hb : Below w.heap.size w w') : MdAt w' a M := by
  obtain ⟨np, oo, n, h1, h2, h3, h4, h5⟩ := h
  exact ⟨np, oo, n, h1.below hb, h2.below hb, h3, h4.below hb, h5⟩
/-- A store into a row of cells keeps the trees. -/
theorem TreeAt.setCell {base tp g : Nat} {w : World} {T : Tree} {cs : Array Value} {t : TypeId} (h : TreeAt base w tp T) (hg : Blk w g cs t) (i : Nat) (v : Value) : TreeAt base (w.setCell ⟨g, i, none⟩ v) tp T := by
  refine h.cellsMut (S := only g) ((Mut.refl _ _).cellOf i v) (fun j hj es cl e => ?_)
  obtain rfl := hj
  rw [Blk] at hg
  rw [hg] at e
  cases e
theorem optAt.setCell {g : Nat} {w : World} {o : Option Nat} {T : Option Tree} {cs : Array Value} {t : TypeId} (h : optAt w o T) (hg : Blk w g cs t) (i : Nat) (v : Value) : optAt (w.setCell ⟨g, i, none⟩ v) o T := by
  cases T with
  | none => exact h
  | some T => obtain ⟨tp, h1, h2, h3⟩ := h; exact ⟨tp, h1, h2.setCell hg i v, h3⟩
def T0 : Tree := fun _ => none
theorem T0_wf : WfT T0 := fun _ _ h => by cases h
theorem T0_at (w : World) : TreeAt w.heap.size (w.alloc (.map #[] 0)) w.heap.size T0 := ⟨Nat.le_refl _, _, (MapAt.new codS w).mono (by omega), fun _ _ => rfl, fun _ _ h => (by cases h), fun _ _ _ _ _ _ _ h => (by cases h)⟩
theorem eql92 (W : World) (o : Option Nat) : (binOp .eql 116 (.map o) (.map none)).run Tryz.prog W = .ok (.bool o.isNone) W := run_eql_map_nil W 116 3 207 o und92
theorem neq92 (W : World) (o : Option Nat) : (binOp .neq 116 (.map o) (.map none)).run Tryz.prog W = .ok (.bool (!o.isNone)) W := run_neq_map_nil W 116 3 207 o und92
theorem mnew_any (pl ks rs ss size : Int) (w : World) : Calls Tryz.prog 21 #[.agg #[.int .i64 pl, .int .i64 ks, .int .i64 rs, .int .i64 ss], .int .i64 size] w fun e w' => ∃ a, e = .returned (.pointer (some ⟨a, 0, none⟩)) ∧ w.heap.size ≤ a ∧ MdAt w' a ⟨T0, none, pl, ks, rs, ss, size, 0⟩ ∧ Below w.heap.size w w' := by
  have hmm := @run_makeMap Tryz.prog
  go_enter Tryz.func21, Tryz.ntmps21
  go_wp2
  go_ret
  obtain ⟨wa, hwa⟩ : ∃ wa, wa = w.alloc (.cells #[.int .i64 pl, .int .i64 ks, .int .i64 rs, .int .i64 ss] 64) := ⟨_, rfl⟩
  have hsa : wa.heap.size = w.heap.size + 1 := by rw [hwa]; simp
  rw [← hwa]
  have ht := T0_at wa
  rw [hsa] at ht
  obtain ⟨wb, hwb⟩ : ∃ wb, wb = wa.alloc (.map #[] 0) := ⟨_, rfl⟩
  have hsb : wb.heap.size = w.heap.size + 2 := by rw [hwb]; simp [hsa]
  rw [← hwb] at ht ⊢
  have hk := Blk.new wb (mdCells (w.heap.size + 1) none ⟨T0, none, pl, ks, rs, ss, size, 0⟩ 0) 118
  rw [hsb] at hk
  have hB : Below w.heap.size w wb := by rw [hwb, hwa]; exact ((Below.refl _ _).alloc (Nat.le_refl _) _).alloc (by simp) _
  exact ⟨w.heap.size + 2, rfl, by omega, ⟨_, _, 0, hk, (ht.below ((Below.refl _ _).alloc (Nat.le_refl _) _)).lower (Nat.zero_le _), T0_wf, rfl, by constructor <;> omega⟩, hB.alloc (by omega) _⟩
theorem begin_any (M : Md) (a : Nat) (w : World) (h : MdAt w a M) : Calls Tryz.prog 130 #[.pointer (some ⟨a, 0, none⟩)] w fun e w' => e = .returned (.int .i64 (if M.opn.isSome then 180 else 0)) ∧ MdAt w' a (if M.opn.isSome then M else { M with opn := some M.now, many := 0 }) ∧ Mut (only a) w w' := by
  obtain ⟨np, oo, n, hb, ht, hw, ho, hn⟩ := h
  have c0 : w.cell? ⟨a, 0, none⟩ = some (.map (some np)) := hb.cell 0
  have c1 : w.cell? ⟨a, 1, none⟩ = some (.map oo) := hb.cell 1
  have c7 : w.cell? ⟨a, 7, none⟩ = some (.int .i64 M.many) := hb.cell 7
  have f1 := hb.free 1
  have f7 := hb.free 7
  have hq1 := neq92
  cases hO : M.opn with
  | none =>
    rw [hO] at ho
    obtain rfl : oo = none := ho
    go_enter Tryz.func130, Tryz.ntmps130
    have Hb := Lib.hid hb
    have Ht := Lib.hid ht
    clear hb ht
    go_wp2_with fail
    refine (tclone_any M.now hw 0 np w Ht.out).mono ?_
    rintro e w1 ⟨rfl, h1, hB⟩
    have hb1 := Hb.out.below hB
    have d1 : w1.cell? ⟨a, 1, none⟩ = some (.map none) := hb1.cell 1
    have d7 : w1.cell? ⟨a, 7, none⟩ = some (.int .i64 M.many) := hb1.cell 7
    have g1 := hb1.free 1
    have g7 := hb1.free 7
    have H1 := Lib.hid h1
    have HB := Lib.hid hB
    have Hb1 := Lib.hid hb1
    clear h1 hB hb1
    go_wp2
    go_ret
    have k1 := Hb1.out.set 1 (.map (some w.heap.size))
    have k2 := k1.set 7 (.int .i64 0)
    refine ⟨rfl, ⟨np, some w.heap.size, n, ?_, ?_, hw, ⟨w.heap.size, rfl, ?_, hw⟩, hn⟩, (((Mut.of_below HB.out).cellOf _ _).cellOf _ _)⟩
    · simpa [mdCells] using k2
    · exact ((Ht.out.below HB.out).setCell Hb1.out _ _).setCell k1 _ _
    · exact ((H1.out.lower (Nat.zero_le _)).setCell Hb1.out _ _).setCell k1 _ _
  | some T =>
    rw [hO] at ho
    obtain ⟨tp, rfl, h1, h2⟩ := ho
    go_enter Tryz.func130, Tryz.ntmps130
    go_wp2
    go_ret
    exact ⟨rfl, ⟨np, some tp, n, hb, ht, hw, by rw [hO]; exact ⟨tp, rfl, h1, h2⟩, hn⟩, Mut.refl _ _⟩
theorem end_none (M : Md) (a : Nat) (w : World) (h : MdAt w a M) (hO : M.opn = none) (keep : Bool) : Calls Tryz.prog 135 #[.pointer (some ⟨a, 0, none⟩), .bool keep] w fun e w' => e = .returned (.int .i64 180) ∧ w = w' := by
  obtain ⟨np, oo, n, hb, ht, hw, ho, hn⟩ := h
  have c1 : w.cell? ⟨a, 1, none⟩ = some (.map oo) := hb.cell 1
  have hq1 := eql92
  rw [hO] at ho
  obtain rfl : oo = none := ho
  go_enter Tryz.func135, Tryz.ntmps135
  go_wp2
  go_ret
  exact ⟨rfl, rfl⟩
theorem end_some (M : Md) (a : Nat) (w : World) (h : MdAt w a M) (T : Tree) (hO : M.opn = some T) (keep : Bool) : Calls Tryz.prog 135 #[.pointer (some ⟨a, 0, none⟩), .bool keep] w fun e w' => e = .returned (.int .i64 0) ∧ MdAt w' a { M with now := if keep then T else M.now, opn := none } ∧ Mut (only a) w w' := by
  obtain ⟨np, oo, n, hb, ht, hw, ho, hn⟩ := h
  have c0 : w.cell? ⟨a, 0, none⟩ = some (.map (some np)) := hb.cell 0
  have c1 : w.cell? ⟨a, 1, none⟩ = some (.map oo) := hb.cell 1
  have f0 := hb.free 0
  have f1 := hb.free 1
  have hq1 := eql92
  rw [hO] at ho
  obtain ⟨tp, rfl, h1, h2⟩ := ho
  have Hb := Lib.hid hb
  have Ht := Lib.hid ht
  have H1 := Lib.hid h1
  clear hb ht h1
  have hm := Mut.refl (only a) w
  cases keep
  · go_enter Tryz.func135, Tryz.ntmps135
    go_wp2
    go_ret
    refine ⟨rfl, ⟨np, none, n, ?_, Ht.out.setCell Hb.out _ _, hw, rfl, hn⟩, hm.cellOf _ _⟩
    have k1 := Hb.out.set 1 (.map none)
    simpa [mdCells] using k1
  · go_enter Tryz.func135, Tryz.ntmps135
    go_wp2
    go_ret
    have k0 := Hb.out.set 0 (.map (some tp))
    refine ⟨rfl, ⟨tp, none, n, ?_, (H1.out.setCell Hb.out _ _).setCell k0 _ _, h2, rfl, hn⟩, (hm.cellOf _ _).cellOf _ _⟩
    have k1 := k0.set 1 (.map none)
    simpa [mdCells] using k1
def mEnd (M : Md) (keep : Bool) : Int × Md := match M.opn with
  | none => (180, M)
  | some T => (0, { M with now := if keep then T else M.now, opn := none })
theorem end_m (M : Md) (a : Nat) (w : World) (h : MdAt w a M) (keep : Bool) : Calls Tryz.prog 135 #[.pointer (some ⟨a, 0, none⟩), .bool keep] w fun e w' => e = .returned (.int .i64 (mEnd M keep).1) ∧ MdAt w' a (mEnd M keep).2 ∧ Mut (only a) w w' := by
  cases hO : M.opn with
  | none =>
    refine (end_none M a w h hO keep).mono ?_
    rintro e w' ⟨rfl, rfl⟩
    simp only [mEnd, hO]
    exact ⟨trivial, h, Mut.refl _ _⟩
  | some T =>
    refine (end_some M a w h T hO keep).mono ?_
    rintro e w' ⟨rfl, h1, h2⟩
    simp only [mEnd, hO]
    exact ⟨trivial, h1, h2⟩
theorem commit_m (M : Md) (a : Nat) (w : World) (h : MdAt w a M) : Calls Tryz.prog 131 #[.pointer (some ⟨a, 0, none⟩)] w fun e w' => e = .returned (.int .i64 (mEnd M true).1) ∧ MdAt w' a (mEnd M true).2 ∧ Mut (only a) w w' := by
  go_enter Tryz.func131, Tryz.ntmps131
  go_wp2_with fail
  refine (end_m M a w h true).mono ?_
  rintro e w1 ⟨rfl, h1, h2⟩
  go_wp2
  go_ret
  exact ⟨rfl, h1, h2⟩
theorem abort_m (M : Md) (a : Nat) (w : World) (h : MdAt w a M) : Calls Tryz.prog 129 #[.pointer (some ⟨a, 0, none⟩)] w fun e w' => e = .returned (.int .i64 (mEnd M false).1) ∧ MdAt w' a (mEnd M false).2 ∧ Mut (only a) w w' := by
  go_enter Tryz.func129, Tryz.ntmps129
  go_wp2_with fail
  refine (end_m M a w h false).mono ?_
  rintro e w1 ⟨rfl, h1, h2⟩
  go_wp2
  go_ret
  exact ⟨rfl, h1, h2⟩
def Md.see (M : Md) : Tree := M.opn.getD M.now
theorem see_m (M : Md) (a : Nat) (w : World) (h : MdAt w a M) : Calls Tryz.prog 142 #[.pointer (some ⟨a, 0, none⟩)] w fun e w' => (∃ tp, e = .returned (.map (some tp)) ∧ TreeAt 0 w tp M.see ∧ WfT M.see) ∧ w = w' := by
  obtain ⟨np, oo, n, hb, ht, hw, ho, hn⟩ := h
  have c0 : w.cell? ⟨a, 0, none⟩ = some (.map (some np)) := hb.cell 0
  have c1 : w.cell? ⟨a, 1, none⟩ = some (.map oo) := hb.cell 1
  have hq1 := neq92
  have Ht := Lib.hid ht
  clear hb ht
  cases hO : M.opn with
  | none =>
    rw [hO] at ho
    obtain rfl : oo = none := ho
    go_enter Tryz.func142, Tryz.ntmps142
    go_wp2
    go_ret
    exact ⟨⟨np, rfl, by simpa [Md.see, hO] using Ht.out, by simpa [Md.see, hO] using hw⟩, rfl⟩
  | some T =>
    rw [hO] at ho
    obtain ⟨tp, rfl, h1, h2⟩ := ho
    have H1 := Lib.hid h1
    clear h1
    go_enter Tryz.func142, Tryz.ntmps142
    go_wp2
    go_ret
    exact ⟨⟨tp, rfl, by simpa [Md.see, hO] using H1.out, by simpa [Md.see, hO] using h2⟩, rfl⟩
/-- What a page says; none: there is no such one. -/
def page? (T : Tree) (id p : Int) : Option ByteArray := (T id).bind fun sp => sp.pages p
def gotS : Option ByteArray → ByteArray
  | none => ⟨#[]⟩
  | some s => s
def gotE : Option ByteArray → Int
  | none => 181
  | some _ => 0
theorem field109_2 (q : Int) (s : Bool) (m : Option Nat) (W : World) : (Instr.field 207 (.agg #[.int .i64 q, .bool s, .map m]) 2).run Tryz.prog W = .ok (.map m) W := by kernel_rfl
theorem field109_0 (q : Int) (s : Bool) (m : Option Nat) (W : World) : (Instr.field 207 (.agg #[.int .i64 q, .bool s, .map m]) 0).run Tryz.prog W = .ok (.int .i64 q) W := by kernel_rfl
theorem get_m (M : Md) (a : Nat) (w : World) (h : MdAt w a M) (id p : Int) (hid : I64 id) (hp : I64 p) : Calls Tryz.prog 133 #[.pointer (some ⟨a, 0, none⟩), .int .i64 id, .int .i64 p] w fun e w' => e = .returned (.tuple #[.string (gotS (page? M.see id p)), .int .i64 (gotE (page? M.see id p))]) ∧ Below w.heap.size w w' := by
  have hfd := field109_2
  go_enter Tryz.func133, Tryz.ntmps133
  go_wp2_with fail
  refine (see_m M a w h).mono ?_
  rintro e w1 ⟨⟨tp, rfl, ht, hw⟩, rfl⟩
  have hB := Below.refl w.heap.size w
  obtain ⟨_, F, hM, hP⟩ := ht
  rcases phys_look hM hP hid with ⟨hn, hl⟩ | ⟨sp, rp, hsm, _, _, _, hpg, hl⟩
  · have hl1 := hl false
    simp only [if_false, Bool.false_eq_true] at hl1
    have hl2 := Maps.look_nil (P := Tryz.prog) true law3 und107 (zero111 w) (key3 hp)
    simp only [if_true, codL] at hl2
    have e0 : page? M.see id p = none := by simp [page?, hn]
    have E0 := Lib.hid e0
    clear e0
    clear hl hP hM
    go_wp2
    go_ret2
    rw [E0.out]
    exact ⟨rfl, hB.alloc (Nat.le_refl _) _⟩
  · have hl1 := hl false
    simp only [if_false, Bool.false_eq_true] at hl1
    obtain ⟨G, hG1, hG2, _⟩ := hpg
    have hl2 := (hG1.look und107 (zero111 w) hp).1
    have e0 : page? M.see id p = (G p).map (·.1) := by rw [hG2]; simp [page?, hsm]
    have E0 := Lib.hid e0
    clear e0
    clear hl hP hM hG1 hG2
    cases hG : G p with
    | none =>
      rw [hG] at hl2
      simp only [codL, Option.getD_none, Option.isSome_none] at hl2
      go_wp2
      go_ret2
      rw [E0.out, hG]
      exact ⟨rfl, hB.alloc (Nat.le_refl _) _⟩
    | some u =>
      rw [hG] at hl2
      simp only [codL, Option.getD_some, Option.isSome_some] at hl2
      go_wp2
      go_ret2
      rw [E0.out, hG]
      exact ⟨rfl, hB.alloc (Nat.le_refl _) _⟩
end Go.Proofs.YticnmogeknlmeaaGreatDoor.B
