/- Helper: whether a tree fits, walked. No condition. -/
import Derived.Test.YteilmbhnbmmcjaaMd
namespace Go.Proofs.Yteilmbhnbmmcjaa.B
open Go.RowKit Go.Maps Go.Proofs.YteilmbhnbmmcjaaW.PrintWords
theorem MapAt.exact {α : Type} {c : Cod α} {w : World} {b n : Nat} {f : Int → Option α} (h : MapAt c w b n f) : ∃ m, m ≤ n ∧ MapAt c w b m f ∧ ∀ (w' : World) (t e ty : TypeId), Try.prog.underlying t = some (.map 3 e) → w'.heap[b]? = w.heap[b]? → (Builtin.len_ #[t] ty #[.map (some b)]).run Try.prog w' = .ok (.int .i64 m) w' := by
  obtain ⟨D, h1, h2⟩ := h
  refine ⟨Maps.size D, h1.size_le, ⟨D, ?_, h2⟩, fun w' t e ty ht he => ?_⟩
  · obtain ⟨es, clock, hb, F, _, rfl⟩ := h1
    exact ⟨es, clock, hb, F, by simp [Maps.size, length_sorted], rfl⟩
  · obtain ⟨es, clock, hb, r⟩ := h1
    have h3 : w'.ownsMap Try.prog 3 c.R b n D := ⟨es, clock, he.trans hb, r⟩
    exact h3.len ht ty
/-- How many pages a tree's spaces may have, all together. -/
def qOf (T : Tree) (k : Int) : Nat := match T k with
  | some sp => sp.q.toNat
  | none => 0
def sumTo (g : Int → Nat) : Nat → Nat
  | 0 => 0
  | n + 1 => sumTo g n + g (n + 1)
def tot (T : Tree) (P : Int → Bool) : Nat := sumTo (fun k => if P k then qOf T k else 0) 15
theorem sumTo_congr {g h : Int → Nat} : ∀ n : Nat, (∀ k : Int, 1 ≤ k → k ≤ n → g k = h k) → sumTo g n = sumTo h n
  | 0, _ => rfl
  | n + 1, e => by
    rw [sumTo, sumTo, sumTo_congr n (fun k h1 h2 => e k h1 (by omega)), e (n + 1) (by omega) (by omega)]
theorem sumTo_step {g h : Int → Nat} (x : Int) (d : Nat) : ∀ n : Nat, 1 ≤ x → x ≤ n → (∀ k : Int, k ≠ x → h k = g k) → h x = g x + d → sumTo h n = sumTo g n + d
  | 0, h1, h2, _, _ => by omega
  | n + 1, h1, h2, e, ex => by
    rw [sumTo, sumTo]
    by_cases hx : x = n + 1
    · subst hx
      rw [ex, sumTo_congr n (fun k _ hk => e k (by omega))]
      omega
    · rw [sumTo_step x d n h1 (by omega) e ex, e (n + 1) (fun h => hx h.symm)]
      omega
theorem tot_step {T : Tree} (hT : WfT T) {x : Int} {sp : Sp} (hx : T x = some sp) {left : Int → Bool} (hl : left x = true) : tot T (fun k => !(left k && !(k == x))) = tot T (fun k => !left k) + sp.q.toNat := by
  have hw := hT x sp hx
  refine sumTo_step x _ 15 hw.1 (by omega) (fun k hk => ?_) ?_
  · simp [hk]
  · simp [hl, qOf, hx]
theorem tot_le (T : Tree) (P : Int → Bool) : tot T P ≤ tot T (fun _ => true) := by
  unfold tot
  have : ∀ n, sumTo (fun k => if P k then qOf T k else 0) n ≤ sumTo (fun k => if true then qOf T k else 0) n := by
    intro n
    induction n with
    | zero => exact Nat.le_refl _
    | succ n ih =>
      rw [sumTo, sumTo]
      have : (if P (n + 1) then qOf T (n + 1) else 0) ≤ qOf T (n + 1) := by split <;> omega
      simp only [if_true] at ih ⊢
      omega
  exact this 15
def total (T : Tree) : Nat := tot T (fun _ => true)
theorem pages_dom {T : Tree} (hT : WfT T) {x : Int} {sp : Sp} (hsp : T x = some sp) {G : Int → Option (ByteArray × Int)} (hG : ∀ p, (G p).map (·.1) = sp.pages p) : ∀ k, I64 k → G k ≠ none → 0 ≤ k ∧ k < 0 + (sp.q.toNat : Int) := by
  intro k _ hk
  have h6 := (hT x sp hsp).2.2.1
  have h5 := hG k
  cases hg : G k with
  | none => exact absurd hg hk
  | some u =>
    rw [hg] at h5
    have := (hT x sp hsp).2.2.2.2 k _ h5.symm
    omega
def FitsRel (w : World) (T : Tree) (RM : Array Value) (tp : Nat) (F : Int → Option (Int × Bool × Option Nat)) (x : Value) (wr : World) : Prop :=
  ∃ (left : Int → Bool) (cnt n s : Nat) (fb : Int → Option Bool), RangeAt codS wr tp (w.heap.size + 2) F left cnt ∧ MapAt codB wr (w.heap.size + 1) n fb ∧ n ≤ s ∧ x = .int .i64 s ∧ s ≤ tot T (fun k => !left k) ∧ Below w.heap.size w wr ∧ Blk wr w.heap.size RM 80
def FitsIn (w : World) (RM : Array Value) (tp rp r2 s : Nat) (F : Int → Option (Int × Bool × Option Nat)) (G : Int → Option (ByteArray × Int)) (left : Int → Bool) (cnt : Nat) (wr : World) : Prop :=
  ∃ (left2 : Int → Bool) (cnt2 n2 : Nat) (fb : Int → Option Bool), RangeAt codL wr rp r2 G left2 cnt2 ∧ MapAt codB wr (w.heap.size + 1) n2 fb ∧ n2 + cnt2 ≤ s ∧ RangeAt codS wr tp (w.heap.size + 2) F left cnt ∧ Below w.heap.size w wr ∧ Blk wr w.heap.size RM 80
set_option maxRecDepth 100000
set_option maxHeartbeats 1600000
theorem fits_any (T : Tree) (hT : WfT T) (b0 tp : Nat) (w : World) (h : TreeAt b0 w tp T) (pl ks rs ss : Int) (h1 : (total T : Int) ≤ pl) (h2 : (total T : Int) ≤ ks) (h3 : total T < 100000) : Calls Try.prog 75 #[.map (some tp), .agg #[.int .i64 pl, .int .i64 ks, .int .i64 rs, .int .i64 ss]] w fun e w' => e = .returned (.bool true) ∧ Below w.heap.size w w' := by
  have htp := h.lt
  obtain ⟨_, F, hM, hP1, hP2, hP3⟩ := h
  have hB0 : Below w.heap.size w ((w.alloc (.cells #[.int .i64 pl, .int .i64 ks, .int .i64 rs, .int .i64 ss] 80)).alloc (.map #[] 0)) := ((Below.refl w.heap.size w).alloc (Nat.le_refl _) _).alloc (by simp) _
  have HM := Lib.hid (hM.below hB0)
  have HB0 := Lib.hid hB0
  have HP1 := Lib.hid hP1
  have HP2 := Lib.hid hP2
  clear hB0 hP1 hP2 hM
  have hmm := @run_makeMap Try.prog
  go_enter Try.func75, Try.ntmps75
  go_wp2_with (first | (at_range; refine range_map rfl _ 92 rfl 109 und92 rfl HM.out ?_; intro w1 cnt hcnt hR hB hsz))
  go_frame
  obtain ⟨RM, hRM⟩ : ∃ RM : Array Value, RM = #[.int .i64 pl, .int .i64 ks, .int .i64 rs, .int .i64 ss] := ⟨_, rfl⟩
  have hsz0 : ((w.alloc (.cells RM 80)).alloc (.map #[] 0)).heap.size = w.heap.size + 2 := by simp
  rw [hRM] at hsz0
  rw [hsz0] at hR hsz ⊢
  have hB1 : Below w.heap.size w w1 := HB0.out.trans (hB.mono (by omega))
  have hOut : MapAt codB w1 (w.heap.size + 1) 0 (fun _ => none) := by
    have := (MapAt.new codB (w.alloc (.cells RM 80)))
    rw [show (w.alloc (.cells RM 80)).heap.size = w.heap.size + 1 by simp, hRM] at this
    exact this.below hB
  have hBk : Blk w1 w.heap.size RM 80 := by
    have h1 := (Blk.new w RM 80).below ((Below.refl (w.alloc (.cells RM 80)).heap.size _).alloc (Nat.le_refl _) (.map #[] 0))
    rw [hRM] at h1 ⊢
    exact h1.below hB
  have HB1 := Lib.hid hB1
  have HR := Lib.hid hR
  have HO := Lib.hid hOut
  have HK := Lib.hid hBk
  have HRM := Lib.hid hRM
  clear hB1 hR hOut hB hBk
  go_loopw [5] (fun x wr => FitsRel w T RM tp F x wr) (fun _ wr => wr.rangeLeft tp (w.heap.size + 2))
  case atStart => exact ⟨_, cnt, 0, 0, _, HR.out, HO.out, Nat.le_refl _, rfl, Nat.zero_le _, HB1.out, HK.out⟩
  case round =>
    obtain ⟨left, c1, n, s, fb, hR1, hO1, hns, rfl, hst, hB2, hK2⟩ := hrel
    have hsT : s ≤ total T := Nat.le_trans hst (tot_le T _)
    have HR1 := Lib.hid hR1
    have HO1 := Lib.hid hO1
    have HS := Lib.hid hst
    have HB2 := Lib.hid hB2
    have HK2 := Lib.hid hK2
    clear hR1 hO1 hst hB2 hK2
    have hK3 := HK2.out.cell 1
    have hK4 := HK2.out.cell 0
    rw [HRM.out] at hK3 hK4
    have k1 : _ = some (Value.int .i64 ks) := hK3
    have k0 : _ = some (Value.int .i64 pl) := hK4
    clear hK3 hK4
    obtain ⟨mm, hmn, _, hlen⟩ := HO1.out.exact
    have hlen0 := hlen wr 157 4 3 und157 rfl
    clear hlen
    have hle1 : (s : Int) ≤ ks := by omega
    have hle2 : (mm : Int) ≤ pl := by omega
    go_wp2_with (first
      | (at_next; refine next_map rfl _ rfl rfl HR1.out (fun hl0 => ?_) (fun x v w2 c2 hx hlx hfx hR2 hlt hM2 hs2 hen => ?_); rotate_left; (obtain ⟨sp, hsp⟩ : ∃ sp, T x = some sp := (by cases hT : T x with | none => (rw [HP1.out x hT] at hfx; cases hfx) | some sp => exact ⟨sp, rfl⟩); obtain ⟨rp, e, hrp0, hrpt, hpg⟩ := HP2.out x sp hsp; rw [e] at hfx; obtain rfl := Option.some.inj hfx; obtain ⟨G, hG1, hG2, hG3⟩ := hpg; have hG4 := hG1.tight (lo := 0) (q := sp.q.toNat) (pages_dom hT hsp hG2); have hq0 := (hT x sp hsp).2.2.1; have hq1 := (hT x sp hsp).2.2.2.1; have hwr : w.heap.size + 2 < wr.heap.size := HR1.out.lt.1; have hB3 : Below w.heap.size w (w2.alloc (.cells #[.int .i64 sp.q, .bool sp.sl, .map (some rp)] 109)) := (HB2.out.trans (hM2.below (by omega) (fun i hi e => by omega))).alloc (by omega) _; obtain ⟨m, hmq, hG5, hlen⟩ := hG4.exact; have hlen2 := hlen _ 107 111 3 und107 (hB3.block rp hG1.lt); have HGA := Lib.hid (hG5.same (hB3.block rp hG1.lt)); have Hrp := Lib.hid hG1.lt; have hstep := tot_step hT hsp hlx; have hstot := tot_le T (fun k => !(left k && !(k == x))); have Hstep := Lib.hid hstep; have Hstot := Lib.hid hstot; have HG3 := Lib.hid hG3; have HB3 := Lib.hid hB3; have HR2 := Lib.hid hR2; have HM2 := Lib.hid hM2; have Hsp := Lib.hid hsp; have Hlx := Lib.hid hlx; clear hR2 hM2 hsp e hlx hfx hG1 hG2 hG3 hG4 hG5 hlen hB3 hstep hstot; simp only [codS] at hen ⊢); rotate_left)
      | (at_range; refine range_map rfl _ 107 rfl 111 und107 rfl HGA.out ?_; intro w3 c3 hc3 hR3 hB3 hs3; have HR3 := Lib.hid hR3; have HB4 := Lib.hid hB3; clear hR3 hB3))
    · go_ret
      exact ⟨rfl, HB2.out⟩
    · go_frame
      obtain ⟨wo, rfl⟩ : ∃ wo, wo = wr := ⟨_, rfl⟩
      obtain ⟨wa, hwa⟩ : ∃ wa, wa = w2.alloc (.cells #[.int .i64 sp.q, .bool sp.sl, .map (some rp)] 109) := ⟨_, rfl⟩
      rw [← hwa] at HGA HB3 HR3 HB4 hs3 ⊢
      have hsa : wa.heap.size = wo.heap.size + 1 := by rw [hwa]; simp [hs2]
      rw [hsa] at HR3 HB4 hs3 ⊢
      have hwrl : w.heap.size + 2 < wo.heap.size := HR1.out.lt.1
      have h2a : Below wo.heap.size w2 wa := by rw [hwa, ← hs2]; exact (Below.refl _ _).alloc (Nat.le_refl _) _
      have h24 : Below wo.heap.size w2 w3 := h2a.trans (HB4.out.mono (by omega))
      have HR23 := Lib.hid (HR2.out.kept (h24.block tp (Nat.lt_of_lt_of_le htp (by omega))) (h24.block _ hwrl))
      have HO3 := Lib.hid (((HO1.out.kept HM2.out (by omega)).same (h24.block _ (by omega)) : MapAt codB w3 (w.heap.size + 1) n fb))
      have HK23 := Lib.hid (show Blk w3 w.heap.size RM 80 from (h24.block _ (by omega)).trans ((HM2.out.block _ HK2.out.lt (by omega)).trans HK2.out))
      have HB13 := Lib.hid (HB3.out.trans (HB4.out.mono (by omega)))
      clear h2a h24
      go_loopw [10] (fun _ wr2 => FitsIn w RM tp rp (wo.heap.size + 1) (s + m) F G (fun z => left z && !(z == x)) c2 wr2) (fun _ wr2 => wr2.rangeLeft rp (wo.heap.size + 1))
      case atStart => exact ⟨_, c3, n, fb, HR3.out, HO3.out, by omega, HR23.out, HB13.out, HK23.out⟩
      case round =>
        obtain ⟨left2, d2, n2, fb2, hRi, hOi, hni, hRo, hBi, hKi⟩ := hrel
        have HRi := Lib.hid hRi
        have HOi := Lib.hid hOi
        have HRo := Lib.hid hRo
        have HBi := Lib.hid hBi
        have HKi := Lib.hid hKi
        clear hRi hOi hRo hBi hKi
        have hlm : w.heap.size + 1 ≠ wr.heap.size := fun e => by have := HOi.out.lt; omega
        go_wp2_with (first
          | (at_next; refine next_map rfl _ rfl rfl HRi.out (fun hl0 => ?_) (fun y v w5 c5 hy hly hfy hR5 hlt5 hM5 hs5 hen5 => ?_); rotate_left; (obtain ⟨ls, ln⟩ := v; have hln := HG3.out y ls ln hfy; have HO6 := Lib.hid ((HOi.out.kept hM5 (by omega)).below ((Below.refl _ _).alloc (Nat.le_refl _) (.cells #[.string ls, .int .i64 ln] 111))); have HR5 := Lib.hid hR5; have HM5 := Lib.hid hM5; clear hR5 hM5 hfy hly; simp only [codL] at hen5 ⊢); rotate_left)
          | (at_mapUpdate; refine update_map rfl _ _ _ 157 rfl 4 und157 HO6.out (by omega) ln hln true rfl rfl rfl ?_; intro w7 hO7 hM7 hs7))
        · go_light
          refine ⟨⟨_, c2, n2, s + m, fb2, HRo.out, HOi.out, by omega, by simp, ?_, HBi.out, HKi.out⟩, ?_⟩
          · rw [Hstep.out]
            have := HS.out
            omega
          · rw [HRo.out.left_eq, HR1.out.left_eq]
            exact hlt
        · go_light
          obtain ⟨wb, hwb⟩ : ∃ wb, wb = w5.alloc (.cells #[.string ls, .int .i64 ln] 111) := ⟨_, rfl⟩
          rw [← hwb] at hM7 hs7
          have hb5 : Below w5.heap.size w5 wb := by rw [hwb]; exact (Below.refl _ _).alloc (Nat.le_refl _) _
          have hrp := Hrp.out
          have R7 := (HR5.out.below hb5).mut hM7 (by omega) (by omega)
          have R8 := ((HRo.out.mut HM5.out (by omega) (by omega)).below hb5).mut hM7 (by omega) (by omega)
          have hwl := HBi.out.size
          have hle5 := HM5.out.size
          have hle6 := hb5.size
          constructor
          · repeat apply Exists.intro
            refine ⟨⟨_, c5, n2 + 1, _, R7, hO7, by omega, R8, ?_, ?_⟩, rfl⟩
            · exact ((HBi.out.trans (HM5.out.below hwl (fun i hi e => by omega))).trans (hb5.mono (by omega))).trans (hM7.below (by omega) (fun i hi e => by omega))
            · have k1 : Blk w5 w.heap.size RM 80 := HKi.out.kept HM5.out (by omega)
              exact (k1.below hb5).kept hM7 (by omega)
          · rw [R7.left_eq, HRi.out.left_eq]
            exact hlt5
end Go.Proofs.Yteilmbhnbmmcjaa.B
