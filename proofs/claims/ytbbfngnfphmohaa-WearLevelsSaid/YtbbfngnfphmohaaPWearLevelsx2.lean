-- PRINTED BY print.sh 35421559b90ae4d0a3588c463048766b98c2df88dd9212a6774a882060cdf62d: not written by this session
import Derived.Test.YtbbfngnfphmohaaPWearLevelsx0
import Derived.Test.YtbbfngnfphmohaaPWearLevelsx1
namespace Go.Proofs.Ytbbfngnfphmohaa.PWearLevels
open Go.RowKit Go.Proofs.YtbbfngnfphmohaaW.PrintWords Go.Proofs.YtbbfngnfphmohaaW.PrintLast Go.Proofs.YtbbfngnfphmohaaW.PrintMore
attribute [local go_sem] max2_int min2_int max_two min_two max_three min_three max_four min_four   -- for this text's walks alone
set_option linter.unusedVariables false
set_option linter.unusedSimpArgs false

/-! ### tinderboxlaw11_WearLevels: function 5 -/
mutual
def tinderboxlaw11_WearLevels.l0 : Nat → Int → List (S25) → Int → Option (Bool)
  | 0, _, _, _ => none
  | k + 1, x1, x5, x6 => if x6 < (x5.length : Int) then (if 0 ≤ x6 then (tinderboxlaw11_WearLevels.l0 k x1 (x5.set (x6 : Int).toNat (⟨x6, (rd_T25 x5 x6).f1⟩ : S25)) (wrap64 (x6 + 1))) else (none)) else (tinderboxlaw11_WearLevels.l1 k x1 x5 0)
def tinderboxlaw11_WearLevels.l1 : Nat → Int → List (S25) → Int → Option (Bool)
  | 0, _, _, _ => none
  | k + 1, x1, x5, x7 => if x7 < (Go.bits .and .i64 x1 255) then ((wear_Least.f k x5).bind fun t132 => (if t132 < 0 then (tinderboxlaw11_WearLevels.j2 k x1 x5 x7 t132 true) else (tinderboxlaw11_WearLevels.j2 k x1 x5 x7 t132 (decide (t132 ≥ (x5.length : Int)))))) else ((tinderboxlaw11_awake.f k).bind fun t131 => (some t131))
def tinderboxlaw11_WearLevels.j2 : Nat → Int → List (S25) → Int → Int → Bool → Option (Bool)
  | 0, _, _, _, _, _ => none
  | k + 1, x1, x5, x7, x8, x39 => if x39 = true then (some false) else (if 0 ≤ x8 then (if x8 < (x5.length : Int) then ((some (x5.set (x8 : Int).toNat (⟨(rd_T25 x5 x8).f0, wrap64 (((rd_T25 x5 x8).f1) + 1)⟩ : S25) : List (S25))).bind fun y134 => ((wear_Spread.f k y134).bind fun t135 => (if t135 > 1 then (some false) else (tinderboxlaw11_WearLevels.l1 k x1 y134 (wrap64 (x7 + 1)))))) else (none)) else (none))
end
def tinderboxlaw11_WearLevels.f (k : Nat) (a0 : Int) (a1 : Int) : Option (Bool) := if 0 ≤ (wrap64 (1 + (Go.bits .and .i64 a0 15))) then (if (wrap64 (1 + (Go.bits .and .i64 a0 15)) : Int).toNat ≤ 17592186044416 then (tinderboxlaw11_WearLevels.l0 k a1 (List.replicate (wrap64 (1 + (Go.bits .and .i64 a0 15)) : Int).toNat z25) 0) else (none)) else (none)
theorem tinderboxlaw11_WearLevels.mono_l : ∀ k, (∀ y0 y1 y2, LeO (tinderboxlaw11_WearLevels.l0 k y0 y1 y2) (tinderboxlaw11_WearLevels.l0 (k + 1) y0 y1 y2)) ∧ (∀ y0 y1 y2, LeO (tinderboxlaw11_WearLevels.l1 k y0 y1 y2) (tinderboxlaw11_WearLevels.l1 (k + 1) y0 y1 y2)) ∧ (∀ y0 y1 y2 y3 y4, LeO (tinderboxlaw11_WearLevels.j2 k y0 y1 y2 y3 y4) (tinderboxlaw11_WearLevels.j2 (k + 1) y0 y1 y2 y3 y4))
  | 0 => ⟨fun _ _ _ r h => by simp [tinderboxlaw11_WearLevels.l0] at h, fun _ _ _ r h => by simp [tinderboxlaw11_WearLevels.l1] at h, fun _ _ _ _ _ r h => by simp [tinderboxlaw11_WearLevels.j2] at h⟩
  | k + 1 => by
    obtain ⟨ih0, ih1, ih2⟩ := tinderboxlaw11_WearLevels.mono_l k
    refine ⟨?_, ?_, ?_⟩
    · intro y0 y1 y2
      unfold tinderboxlaw11_WearLevels.l0
      repeat' first
      | (with_reducible exact ih0 _ _ _)
      | (with_reducible exact ih1 _ _ _)
      | (with_reducible exact ih2 _ _ _ _ _)
      | (with_reducible exact tinderboxlaw11_awake.mono _)
      | (with_reducible exact wear_Least.mono _ _)
      | (with_reducible exact wear_Spread.mono _ _)
      | (with_reducible exact LeO.refl _)
      | (with_reducible exact LeO.none _)
      | (with_reducible refine LeO.ite ?_ ?_)
      | (with_reducible refine LeO.bind ?_ (fun _ => ?_))
      | exact ih0 _ _ _
      | exact ih1 _ _ _
      | exact ih2 _ _ _ _ _
      | exact tinderboxlaw11_awake.mono _
      | exact wear_Least.mono _ _
      | exact wear_Spread.mono _ _
      | exact LeO.none _
      | refine LeO.ite ?_ ?_
      | refine LeO.bind ?_ (fun _ => ?_)
    · intro y0 y1 y2
      unfold tinderboxlaw11_WearLevels.l1
      repeat' first
      | (with_reducible exact ih0 _ _ _)
      | (with_reducible exact ih1 _ _ _)
      | (with_reducible exact ih2 _ _ _ _ _)
      | (with_reducible exact tinderboxlaw11_awake.mono _)
      | (with_reducible exact wear_Least.mono _ _)
      | (with_reducible exact wear_Spread.mono _ _)
      | (with_reducible exact LeO.refl _)
      | (with_reducible exact LeO.none _)
      | (with_reducible refine LeO.ite ?_ ?_)
      | (with_reducible refine LeO.bind ?_ (fun _ => ?_))
      | exact ih0 _ _ _
      | exact ih1 _ _ _
      | exact ih2 _ _ _ _ _
      | exact tinderboxlaw11_awake.mono _
      | exact wear_Least.mono _ _
      | exact wear_Spread.mono _ _
      | exact LeO.none _
      | refine LeO.ite ?_ ?_
      | refine LeO.bind ?_ (fun _ => ?_)
    · intro y0 y1 y2 y3 y4
      unfold tinderboxlaw11_WearLevels.j2
      repeat' first
      | (with_reducible exact ih0 _ _ _)
      | (with_reducible exact ih1 _ _ _)
      | (with_reducible exact ih2 _ _ _ _ _)
      | (with_reducible exact tinderboxlaw11_awake.mono _)
      | (with_reducible exact wear_Least.mono _ _)
      | (with_reducible exact wear_Spread.mono _ _)
      | (with_reducible exact LeO.refl _)
      | (with_reducible exact LeO.none _)
      | (with_reducible refine LeO.ite ?_ ?_)
      | (with_reducible refine LeO.bind ?_ (fun _ => ?_))
      | exact ih0 _ _ _
      | exact ih1 _ _ _
      | exact ih2 _ _ _ _ _
      | exact tinderboxlaw11_awake.mono _
      | exact wear_Least.mono _ _
      | exact wear_Spread.mono _ _
      | exact LeO.none _
      | refine LeO.ite ?_ ?_
      | refine LeO.bind ?_ (fun _ => ?_)
theorem tinderboxlaw11_WearLevels.mono : ∀ a0 a1 k, LeO (tinderboxlaw11_WearLevels.f k a0 a1) (tinderboxlaw11_WearLevels.f (k + 1) a0 a1) := by
  intro a0 a1 k
  obtain ⟨ih0, ih1, ih2⟩ := tinderboxlaw11_WearLevels.mono_l k
  unfold tinderboxlaw11_WearLevels.f
  repeat' first
      | (with_reducible exact ih0 _ _ _)
      | (with_reducible exact ih1 _ _ _)
      | (with_reducible exact ih2 _ _ _ _ _)
      | (with_reducible exact tinderboxlaw11_awake.mono _)
      | (with_reducible exact wear_Least.mono _ _)
      | (with_reducible exact wear_Spread.mono _ _)
      | (with_reducible exact LeO.refl _)
      | (with_reducible exact LeO.none _)
      | (with_reducible refine LeO.ite ?_ ?_)
      | (with_reducible refine LeO.bind ?_ (fun _ => ?_))
      | exact ih0 _ _ _
      | exact ih1 _ _ _
      | exact ih2 _ _ _ _ _
      | exact tinderboxlaw11_awake.mono _
      | exact wear_Least.mono _ _
      | exact wear_Spread.mono _ _
      | exact LeO.none _
      | refine LeO.ite ?_ ?_
      | refine LeO.bind ?_ (fun _ => ?_)
set_option maxHeartbeats 8000000 in
set_option maxRecDepth 100000 in
theorem tinderboxlaw11_WearLevels.calls (k : Nat) (a0 : Int) (a1 : Int) (r : Bool) (w : World) (h : tinderboxlaw11_WearLevels.f k a0 a1 = some r) :
    Calls Try.prog 5 #[.int .i64 a0, .int .i64 a1] w fun e w' => e = .returned (.bool r) ∧ Below w.heap.size w w' := by
  have HB := Aside0.mk (Below.refl w.heap.size w)
  have H : (if 0 ≤ (wrap64 (1 + (Go.bits .and .i64 a0 15))) then (if (wrap64 (1 + (Go.bits .and .i64 a0 15)) : Int).toNat ≤ 17592186044416 then (tinderboxlaw11_WearLevels.l0 k a1 (List.replicate (wrap64 (1 + (Go.bits .and .i64 a0 15)) : Int).toNat z25) 0) else (none)) else (none)) = some r := h
  clear h
  obtain ⟨ji3, hji3⟩ : ∃ j_ : Int, (wrap64 (1 + (Go.bits .and .i64 a0 15))) = j_ := ⟨_, rfl⟩
  replace H : (if 0 ≤ (ji3) then (if (ji3 : Int).toNat ≤ 17592186044416 then (tinderboxlaw11_WearLevels.l0 k a1 (List.replicate (ji3 : Int).toNat z25) 0) else (none)) else (none)) = some r := by first | (rw [hji3] at H; exact H) | (simp only [hji3] at H ⊢; exact H)
  have hji3w : (IntKind.i64.wrap (1 + (Go.bits .and .i64 a0 15))) = ji3 := (i64_w _).trans hji3
  by_cases c4 : 0 ≤ (ji3)
  · rw [if_pos c4] at H
    have c4b0 := eq_true c4
    have c4b1 : decide (0 ≤ (ji3)) = true := decide_eq_true c4
    clear c4
    by_cases c5 : (ji3 : Int).toNat ≤ 17592186044416
    · rw [if_pos c5] at H
      have c5b0 := eq_true c5
      have c5b1 : decide ((ji3 : Int).toNat ≤ 17592186044416) = true := decide_eq_true c5
      clear c5
      obtain ⟨y127, hy127⟩ : ∃ y_ : List (S25), y_ = (List.replicate (ji3 : Int).toNat z25) := ⟨_, rfl⟩
      replace H : (tinderboxlaw11_WearLevels.l0 k a1 y127 0) = some r := by first | (rw [hy127]; with_reducible exact H) | (have H2_ := (Option.bind_some _ _).symm.trans H; rw [hy127]; with_reducible exact H2_) | (have H2_ := (Option.bind_some _ _).symm.trans H; with_reducible exact H2_) | with_reducible exact H | (rw [hy127]; exact H) | exact H
      have Ny127 := Aside0.mk hy127
      clear hy127
      have H' := Aside0.mk H
      clear H
      go_enter Try.func5, Try.ntmps5
      go_wp2_with (first | ((with_reducible refine gate_dst (N := 12) rfl ?_); (try (refine gate_guard (by rfl) ?_; dsimp only)); refine Kd.R_make k25 _ 25 rfl (N := 12) rfl 22 _ _ rfl ji3 rfl rfl Try.underlying22 (.agg #[(.int .i64 0), (.int .i64 0)]) 16 info25 rfl (by decide) (by omega) z25 (ok := fun _ => True) (okp := fun _ => True) (k25_mkM _ _ _ z25 ) (fun _ hk => hk) trivial (of_decide_eq_true (by first | (with_reducible assumption) | assumption)) (Nat.le_trans (Nat.mul_le_mul_right _ (of_decide_eq_true (by first | (with_reducible assumption) | assumption) : ji3.toNat ≤ 17592186044416)) (by omega)) (Below.refl _ _) (Nat.le_refl _) ?_; intro v128 w6 ho7 hb hg_ hnew_; clear hg_ hnew_; (first | rw [← Ny127.out] at ho7 | (simp only [Int.reduceToNat] at ho7; rw [← Ny127.out] at ho7)); have n0_ := Aside0.mk (Kd.R_lower ho7 (below_size (by repeat (first | (with_reducible first | exact HB.out | apply below_alloc | apply pw_below_drewN | apply below_drew1) | exact HB.out)))); have n1_ := Aside0.mk (below_step (by repeat (first | (with_reducible first | exact HB.out | apply below_alloc | apply pw_below_drewN | apply below_drew1) | exact HB.out)) hb); clear HB; have HO129 := n0_; have HB := n1_; clear n0_ n1_; clear hb ho7))
      go_loopg [6] k (fun kq v6 w' => ∃ (x5_1 : List (S25)) (x6_1 : Int), v6 = .int .i64 x6_1 ∧ Aside0 (tinderboxlaw11_WearLevels.l0 kq a1 x5_1 x6_1 = some r) ∧ Aside0 (kq ≤ k) ∧ Aside0 (Kd.R k25 25 w' w.heap.size (fun _ => True) v128 x5_1) ∧ Aside0 (Below w.heap.size w w'))
      case atStart => exact ⟨(y127), (0), (by first | rfl | (simp; done) | (simp [*]; done)), H', ⟨Nat.le_refl _⟩, ⟨by (with_reducible repeat (first | apply Kd.R_alloc | apply Kd.R_drewN | apply Kd.R_drew)); exact HO129.out⟩, ⟨by repeat (first | (with_reducible first | exact HB.out | apply below_alloc | apply pw_below_drewN | apply below_drew1) | exact HB.out)⟩⟩
      case round =>
        clear H'
        try clear p2
        try clear c4
        try clear c4b0
        try clear c4b1
        try clear c5
        try clear c5b0
        try clear c5b1
        try clear p6
        obtain ⟨x5_1, x6_1, rfl, HA, HK1, HO_5, HB⟩ := hrel
        cases gk with
        | zero => exact absurd HA.out (by simp [tinderboxlaw11_WearLevels.l0])
        | succ k1 =>
          have H := HA.out
          clear HA
          simp only [tinderboxlaw11_WearLevels.l0] at H
          by_cases c8 : x6_1 < (x5_1.length : Int)
          · rw [if_pos c8] at H
            have c8b0 : decide (x6_1 < (x5_1.length : Int)) = true := decide_eq_true c8
            clear c8
            by_cases c9 : 0 ≤ x6_1
            · rw [if_pos c9] at H
              have c9b0 : decide (0 ≤ x6_1) = true := decide_eq_true c9
              clear c9
              obtain ⟨y130, hy130⟩ : ∃ y_ : List (S25), y_ = (x5_1.set (x6_1 : Int).toNat (⟨x6_1, (rd_T25 x5_1 x6_1).f1⟩ : S25)) := ⟨_, rfl⟩
              replace H : (tinderboxlaw11_WearLevels.l0 k1 a1 y130 (wrap64 (x6_1 + 1))) = some r := by first | (rw [hy130]; with_reducible exact H) | (have H2_ := (Option.bind_some _ _).symm.trans H; rw [hy130]; with_reducible exact H2_) | (have H2_ := (Option.bind_some _ _).symm.trans H; with_reducible exact H2_) | with_reducible exact H | (rw [hy130]; exact H) | exact H
              have Ny130 := Aside0.mk hy130
              clear hy130
              have H' := Aside0.mk H
              clear H
              obtain ⟨Ao11, co11, eo11⟩ := Kd.R_slice HO_5.out
              subst eo11
              have p10 : 0 ≤ (x6_1 : Int) := of_decide_eq_true (by first | (with_reducible assumption) | assumption)
              have q10 : (x6_1 : Int) < ((x5_1.length : Int) : Int) := of_decide_eq_true (by first | (with_reducible assumption) | assumption)
              obtain ⟨go10, co10, eo10, gb10, gl10, cl10, HG10⟩ := Kd.R_form HO_5.out (by omega)
              (first | cases eo10 | (injection eo10 with ea_ en_ ec_; (first | subst ea_ | (injection ea_ with ea_; subst ea_)); subst ec_; clear en_))
              have GB10 := Aside0.mk gb10
              have GG10 := Aside0.mk HG10
              clear gb10 gl10 HG10
              obtain ⟨ce10, hcl10, hM10, hcc10, hfr10⟩ := Kd.R_elem HO_5.out z25 (x6_1 : Int) p10 q10
              obtain rfl := k25_openM hM10
              have hx10_0 : wr.cell? ⟨go10, (x6_1 : Int).toNat * 2, none⟩ = some (.int .i64 ((rd_T25 x5_1 x6_1).f0)) := hcc10 0 _ rfl
              have hx10_1 : wr.cell? ⟨go10, (x6_1 : Int).toNat * 2 + 1, none⟩ = some (.int .i64 ((rd_T25 x5_1 x6_1).f1)) := hcc10 1 _ rfl
              have hf10_0 : wr.frozen? ⟨go10, (x6_1 : Int).toNat * 2, none⟩ = false := hfr10 0
              have hf10_1 : wr.frozen? ⟨go10, (x6_1 : Int).toNat * 2 + 1, none⟩ = false := hfr10 1
              clear hcl10 hcc10 hfr10 hM10
              replace p10 := eq_true p10
              replace q10 := eq_true q10
              have HX12 := Aside0.mk (show Kd.R k25 25 wr w.heap.size (fun _ => True) (.slice (some ⟨go10, 0, none⟩) x5_1.length co11) x5_1 from (by (with_reducible repeat (first | apply Kd.R_alloc | apply Kd.R_drewN | apply Kd.R_drew)); exact HO_5.out))
              obtain ⟨ce12, hcl12, hM12, hcc12, hfr12⟩ := Kd.R_elem HX12.out z25 (x6_1 : Int) (of_decide_eq_true (by first | (with_reducible assumption) | assumption)) (by have h_ : (x6_1 : Int) < ((x5_1.length : Int) : Int) := of_decide_eq_true (by first | (with_reducible assumption) | assumption); first | exact h_ | (have e_ := (Kd.R_reads' HO_5.out).1; omega) | simpa using h_)
              obtain rfl := k25_openM hM12
              have HP12 := Kd.R_seg HX12.out (x6_1 : Int) (of_decide_eq_true (by first | (with_reducible assumption) | assumption)) (by have h_ : (x6_1 : Int) < ((x5_1.length : Int) : Int) := of_decide_eq_true (by first | (with_reducible assumption) | assumption); first | exact h_ | (have e_ := (Kd.R_reads' HO_5.out).1; omega) | simpa using h_) (seg := [.int .i64 x6_1]) (j := 0) hcl12 hcc12 (show 1 ≤ 2 from by decide) (x' := (⟨x6_1, (rd_T25 x5_1 x6_1).f1⟩ : S25)) (k25_mkM _ _ _ (⟨x6_1, (rd_T25 x5_1 x6_1).f1⟩ : S25) ) (fun _ hk => hk)
              have hx12_0 := hcc12 0 _ rfl
              (try simp only [show (k25).sz = 2 from rfl, Nat.mul_one, Nat.add_zero] at hx12_0)
              have hf12_0 := hfr12 0
              (try simp only [show (k25).sz = 2 from rfl, Nat.mul_one, Nat.add_zero] at hf12_0)
              clear hcl12 hcc12 hfr12 hM12
              go_wp2_with (first | ((with_reducible refine gate_store (t := 3) (p := 23) rfl ?_); refine store_event (t := 3) (p := 23) (v := ?vo_w13) (w1 := (wr.setCell ⟨go10, (x6_1 : Int).toNat * 2, none⟩ (.int .i64 x6_1))) ?hg ?ho ?hn ?hr ?_; (case ho => rfl); (case hg => rfl); (case hn => rfl); (case hr => first | (go_simp; done) | (go_simp; rfl)); intro w13 hw; have hg : wr.grownBy w13 (some go10) := (by rw [hw]; exact HP12.2); have hp_ : Kd.R k25 25 w13 w.heap.size (fun _ => True) (.slice (some ⟨go10, 0, none⟩) x5_1.length co11) y130 := (by rw [hw, Ny130.out]; exact HP12.1); clear HP12; have n0_ := Aside0.mk (hp_); have n1_ := Aside0.mk ((by rw [hw]; exact below_set (HB.out) GB10.out : Below w.heap.size w w13)); clear HO_5; clear HB; have HO_5 := n0_; have HB := n1_; clear n0_ n1_; clear hg hw hp_))
              go_roundg k1
              case measure => have := HK1.out; omega
              case rel => exact ⟨(y130), (wrap64 (x6_1 + 1)), (by first | rfl | (simp; done) | (simp [*]; done)), H', ⟨by have := HK1.out; omega⟩, ⟨by (with_reducible repeat (first | apply Kd.R_alloc | apply Kd.R_drewN | apply Kd.R_drew)); exact HO_5.out⟩, ⟨by repeat (first | (with_reducible first | exact HB.out | apply below_alloc | apply pw_below_drewN | apply below_drew1) | exact HB.out)⟩⟩
            · rw [if_neg c9] at H
              exact absurd H (by simp)
          · rw [if_neg c8] at H
            have c8b0 : decide (x6_1 < (x5_1.length : Int)) = false := decide_eq_false c8
            clear c8
            have H' := Aside0.mk H
            clear H
            obtain ⟨Ao14, co14, eo14⟩ := Kd.R_slice HO_5.out
            subst eo14
            go_wp2
            go_loopg [7] k1 (fun kq v7 w' => ∃ (x5_2 : List (S25)) (x7_2 : Int), v7 = .int .i64 x7_2 ∧ Aside0 (tinderboxlaw11_WearLevels.l1 kq a1 x5_2 x7_2 = some r) ∧ Aside0 (kq ≤ k1) ∧ Aside0 (Kd.R k25 25 w' w.heap.size (fun _ => True) (.slice Ao14 x5_1.length co14) x5_2) ∧ Aside0 (Below w.heap.size w w'))
            case atStart => exact ⟨(x5_1), (0), (by first | rfl | (simp; done) | (simp [*]; done)), H', ⟨Nat.le_refl _⟩, ⟨by (with_reducible repeat (first | apply Kd.R_alloc | apply Kd.R_drewN | apply Kd.R_drew)); exact HO_5.out⟩, ⟨by repeat (first | (with_reducible first | exact HB.out | apply below_alloc | apply pw_below_drewN | apply below_drew1) | exact HB.out)⟩⟩
            case round =>
              clear H'
              try clear c1
              try clear p1
              try clear q1
              try clear hx1
              try clear p2
              try clear c4
              try clear c4b0
              try clear c4b1
              try clear c5
              try clear c5b0
              try clear c5b1
              try clear p6
              try clear c8
              try clear c8b0
              try clear c9
              try clear c9b0
              try clear c10
              try clear p10
              try clear q10
              try clear hx10
              try clear hf10
              try clear c12
              try clear hx12
              try clear hf12
              try clear hx10_0
              try clear hx10_1
              try clear hx12_0
              try clear p10
              try clear p2
              try clear p6
              try clear q10
              obtain ⟨x5_2, x7_2, rfl, HA, HK2, HO_5, HB⟩ := hrel
              have hl5_2 := (Kd.R_reads' HO_5.out).1
              rw [hl5_2] at HO_5
              (try simp only [hl5_2])
              cases gk with
              | zero => exact absurd HA.out (by simp [tinderboxlaw11_WearLevels.l1])
              | succ k2 =>
                have H := HA.out
                clear HA
                simp only [tinderboxlaw11_WearLevels.l1] at H
                by_cases c15 : x7_2 < (Go.bits .and .i64 a1 255)
                · rw [if_pos c15] at H
                  have c15b0 : decide (x7_2 < (Go.bits .and .i64 a1 255)) = true := decide_eq_true c15
                  clear c15
                  replace H := Option.bind_eq_some_iff.mp H
                  obtain ⟨t132, A160, H⟩ := H
                  replace H : (if t132 < 0 then (tinderboxlaw11_WearLevels.j2 k2 a1 x5_2 x7_2 t132 true) else (tinderboxlaw11_WearLevels.j2 k2 a1 x5_2 x7_2 t132 (decide (t132 ≥ (x5_2.length : Int))))) = some r := H
                  have A16 := Aside0.mk A160
                  clear A160
                  have HC17 := Aside0.mk H
                  clear H
                  go_upto_region 10 with (first | ((with_reducible refine gate_callee (f := 14) rfl ?_); refine goesL_ (some 31) rfl rfl Try.func14 (by kernel_rfl) rfl #[.slice Ao14 x5_2.length co14] rfl (by (try simp only [List.map_toArray, List.map_cons, List.map_nil]); first | done | rfl | (simp only [List.length_drop, List.length_take]; rfl)) ?_; (with_reducible refine (wear_Least.calls k2 _ _ x5_2 t132 _ ?side1 ?side2 A16.out).mono ?_); (case side1 => repeat (first | exact (Kd.R_reads' HO_5.out).2.2 | (with_reducible refine Kd.C_alloc ?_ _) | (with_reducible refine Kd.C_drewN ?_ _) | (with_reducible refine Kd.C_drew ?_))); (case side2 => exact (Kd.R_reads' HO_5.out).2.1); rintro e w18 ⟨rfl, hb⟩; refine ⟨_, rfl, ?_⟩; have n0_ := Aside0.mk (Kd.R_below (by (with_reducible repeat (first | apply Kd.R_alloc | apply Kd.R_drewN | apply Kd.R_drew)); exact HO_5.out) hb); have n1_ := Aside0.mk (below_step (by repeat (first | (with_reducible first | exact HB.out | apply below_alloc | apply pw_below_drewN | apply below_drew1) | exact HB.out)) hb); clear HO_5; clear HB; have HO_5 := n0_; have HB := n1_; clear n0_ n1_; (try clear hb); (try clear hb2); (try clear hk); (try clear hi)))
                  (try simp only [Act.put, List.setIfInBounds_toArray, List.set_cons_zero, List.set_cons_succ])
                  go_cut [39] (fun v39 wc => ∃ (kq : Nat) (x39_16 : Bool), v39 = .bool x39_16 ∧ Aside0 (tinderboxlaw11_WearLevels.j2 kq a1 x5_2 x7_2 t132 x39_16 = some r) ∧ Aside0 (kq ≤ k2) ∧ Aside0 (Kd.R k25 25 wc w.heap.size (fun _ => True) (.slice Ao14 x5_2.length co14) x5_2) ∧ Aside0 (Below w.heap.size w wc))
                  case first =>
                    have H := HC17.out
                    clear HC17
                    by_cases c19 : t132 < 0
                    · rw [if_pos c19] at H
                      have c19b0 : decide (t132 < 0) = true := decide_eq_true c19
                      clear c19
                      (first | rw [c19b0] | (simp only [i64_w, i32_w]; rw [c19b0]) | skip)
                      have H' := Aside0.mk H
                      clear H
                      go_wp2
                      go_meet
                      case rel => exact ⟨_, (true), (by first | rfl | (simp; done) | (simp [*]; done)), H', ⟨by have := HK1.out; have := HK2.out; first | omega | exact Nat.le_refl _⟩, ⟨by (try simp only [hl5_2]); (with_reducible repeat (first | apply Kd.R_alloc | apply Kd.R_drewN | apply Kd.R_drew)); exact HO_5.out⟩, ⟨by repeat (first | (with_reducible first | exact HB.out | apply below_alloc | apply pw_below_drewN | apply below_drew1) | exact HB.out)⟩⟩
                    · rw [if_neg c19] at H
                      have c19b0 : decide (t132 < 0) = false := decide_eq_false c19
                      clear c19
                      (first | rw [c19b0] | (simp only [i64_w, i32_w]; rw [c19b0]) | skip)
                      have H' := Aside0.mk H
                      clear H
                      go_wp2
                      go_meet
                      case rel => exact ⟨_, (decide (t132 ≥ (x5_2.length : Int))), (by first | rfl | (simp; done) | (simp [*]; done)), H', ⟨by have := HK1.out; have := HK2.out; first | omega | exact Nat.le_refl _⟩, ⟨by (try simp only [hl5_2]); (with_reducible repeat (first | apply Kd.R_alloc | apply Kd.R_drewN | apply Kd.R_drew)); exact HO_5.out⟩, ⟨by repeat (first | (with_reducible first | exact HB.out | apply below_alloc | apply pw_below_drewN | apply below_drew1) | exact HB.out)⟩⟩
                  case rest =>
                    clear HC17
                    try clear c1
                    try clear p1
                    try clear q1
                    try clear hx1
                    try clear p2
                    try clear c4
                    try clear c4b0
                    try clear c4b1
                    try clear c5
                    try clear c5b0
                    try clear c5b1
                    try clear p6
                    try clear c8
                    try clear c8b0
                    try clear c9
                    try clear c9b0
                    try clear c10
                    try clear p10
                    try clear q10
                    try clear hx10
                    try clear hf10
                    try clear c12
                    try clear hx12
                    try clear hf12
                    try clear c14
                    try clear c15
                    try clear c15b0
                    try clear c19
                    try clear c19b0
                    try clear hx10_0
                    try clear hx10_1
                    try clear hx12_0
                    try clear p1
                    try clear p10
                    try clear p2
                    try clear p6
                    try clear q1
                    try clear q10
                    obtain ⟨kq, x39_16, rfl, HA, HJ16, HO_5, HB⟩ := hcut
                    cases kq with
                    | zero => exact absurd HA.out (by simp [tinderboxlaw11_WearLevels.j2])
                    | succ kj16 =>
                      have H := HA.out
                      clear HA
                      simp only [tinderboxlaw11_WearLevels.j2] at H
                      by_cases c20 : x39_16 = true
                      · subst c20
                        have H1 : (some false) = some r := by rw [if_pos rfl] at H; exact H
                        clear H
                        have H := H1
                        clear H1
                        obtain rfl := Option.some.inj H
                        go_wp2
                        go_ret
                        exact ⟨by first | rfl | (simp [errW_none, errW_some] <;> rfl) | (simp only [← hji3]; first | rfl | (simp [errW_none, errW_some] <;> rfl)) | (simp [*, errW_none, errW_some] <;> rfl), by repeat (first | (with_reducible first | exact HB.out | apply below_alloc | apply pw_below_drewN | apply below_drew1) | exact HB.out)⟩
                      · replace c20 := Bool.eq_false_iff.mpr c20
                        subst c20
                        have H1 : (if 0 ≤ t132 then (if t132 < (x5_2.length : Int) then ((some (x5_2.set (t132 : Int).toNat (⟨(rd_T25 x5_2 t132).f0, wrap64 (((rd_T25 x5_2 t132).f1) + 1)⟩ : S25) : List (S25))).bind fun y134 => ((wear_Spread.f kj16 y134).bind fun t135 => (if t135 > 1 then (some false) else (tinderboxlaw11_WearLevels.l1 kj16 a1 y134 (wrap64 (x7_2 + 1)))))) else (none)) else (none)) = some r := by rw [if_neg (show ¬ (false = true) by decide)] at H; exact H
                        clear H
                        have H := H1
                        clear H1
                        by_cases c21 : 0 ≤ t132
                        · rw [if_pos c21] at H
                          have c21b0 : decide (0 ≤ t132) = true := decide_eq_true c21
                          clear c21
                          by_cases c22 : t132 < (x5_2.length : Int)
                          · rw [if_pos c22] at H
                            have c22b0 : decide (t132 < (x5_2.length : Int)) = true := decide_eq_true c22
                            clear c22
                            obtain ⟨y134, hy134⟩ : ∃ y_ : List (S25), y_ = (x5_2.set (t132 : Int).toNat (⟨(rd_T25 x5_2 t132).f0, wrap64 (((rd_T25 x5_2 t132).f1) + 1)⟩ : S25)) := ⟨_, rfl⟩
                            replace H : ((wear_Spread.f kj16 y134).bind fun t135 => (if t135 > 1 then (some false) else (tinderboxlaw11_WearLevels.l1 kj16 a1 y134 (wrap64 (x7_2 + 1))))) = some r := by first | (rw [hy134]; with_reducible exact H) | (have H2_ := (Option.bind_some _ _).symm.trans H; rw [hy134]; with_reducible exact H2_) | (have H2_ := (Option.bind_some _ _).symm.trans H; with_reducible exact H2_) | with_reducible exact H | (rw [hy134]; exact H) | exact H
                            have Ny134 := Aside0.mk hy134
                            clear hy134
                            replace H := Option.bind_eq_some_iff.mp H
                            obtain ⟨t135, A240, H⟩ := H
                            replace H : (if t135 > 1 then (some false) else (tinderboxlaw11_WearLevels.l1 kj16 a1 y134 (wrap64 (x7_2 + 1)))) = some r := H
                            have A24 := Aside0.mk A240
                            clear A240
                            by_cases c25 : t135 > 1
                            · rw [if_pos c25] at H
                              have c25b0 : decide (1 < t135) = true := decide_eq_true c25
                              clear c25
                              obtain rfl := Option.some.inj H
                              have p133 : 0 ≤ (t132 : Int) := of_decide_eq_true (by first | (with_reducible assumption) | assumption)
                              have q133 : t132 < (x5_2.length : Int) := of_decide_eq_true (by first | (with_reducible assumption) | assumption)
                              obtain ⟨ad133, e133, hx133_0, hx133_1⟩ := at_T25 (Kd.R_reads' HO_5.out).2.2 t132 p133 q133
                              cases e133
                              replace p133 := eq_true p133
                              replace q133 := eq_true q133
                              have p23 : 0 ≤ (t132 : Int) := of_decide_eq_true (by first | (with_reducible assumption) | assumption)
                              have q23 : (t132 : Int) < ((x5_2.length : Int) : Int) := of_decide_eq_true (by first | (with_reducible assumption) | assumption)
                              obtain ⟨go23, co23, eo23, gb23, gl23, cl23, HG23⟩ := Kd.R_form HO_5.out (by omega)
                              (first | cases eo23 | (injection eo23 with ea_ en_ ec_; (first | subst ea_ | (injection ea_ with ea_; subst ea_)); subst ec_; clear en_))
                              have GB23 := Aside0.mk gb23
                              have GG23 := Aside0.mk HG23
                              clear gb23 gl23 HG23
                              (first | simp only [add_plain] at hx133_0 | skip)
                              (first | simp only [add_plain] at hx133_1 | skip)
                              obtain ⟨ce23, hcl23, hM23, hcc23, hfr23⟩ := Kd.R_elem HO_5.out z25 (t132 : Int) p23 q23
                              obtain rfl := k25_openM hM23
                              have hx23_0 : wc.cell? ⟨go23, (t132 : Int).toNat * 2, none⟩ = some (.int .i64 ((rd_T25 x5_2 t132).f0)) := hcc23 0 _ rfl
                              have hx23_1 : wc.cell? ⟨go23, (t132 : Int).toNat * 2 + 1, none⟩ = some (.int .i64 ((rd_T25 x5_2 t132).f1)) := hcc23 1 _ rfl
                              have hf23_0 : wc.frozen? ⟨go23, (t132 : Int).toNat * 2, none⟩ = false := hfr23 0
                              have hf23_1 : wc.frozen? ⟨go23, (t132 : Int).toNat * 2 + 1, none⟩ = false := hfr23 1
                              clear hcl23 hcc23 hfr23 hM23
                              replace p23 := eq_true p23
                              replace q23 := eq_true q23
                              have HX26 := Aside0.mk (show Kd.R k25 25 wc w.heap.size (fun _ => True) (.slice (some ⟨go23, 0, none⟩) x5_2.length co14) x5_2 from (by (with_reducible repeat (first | apply Kd.R_alloc | apply Kd.R_drewN | apply Kd.R_drew)); exact HO_5.out))
                              obtain ⟨ce26, hcl26, hM26, hcc26, hfr26⟩ := Kd.R_elem HX26.out z25 (t132 : Int) (of_decide_eq_true (by first | (with_reducible assumption) | assumption)) (by have h_ : (t132 : Int) < ((x5_2.length : Int) : Int) := of_decide_eq_true (by first | (with_reducible assumption) | assumption); first | exact h_ | (have e_ := (Kd.R_reads' HO_5.out).1; omega) | simpa using h_)
                              obtain rfl := k25_openM hM26
                              have HP26 := Kd.R_seg HX26.out (t132 : Int) (of_decide_eq_true (by first | (with_reducible assumption) | assumption)) (by have h_ : (t132 : Int) < ((x5_2.length : Int) : Int) := of_decide_eq_true (by first | (with_reducible assumption) | assumption); first | exact h_ | (have e_ := (Kd.R_reads' HO_5.out).1; omega) | simpa using h_) (seg := [.int .i64 (wrap64 (((rd_T25 x5_2 t132).f1) + 1))]) (j := 1) hcl26 hcc26 (show 2 ≤ 2 from by decide) (x' := (⟨(rd_T25 x5_2 t132).f0, wrap64 (((rd_T25 x5_2 t132).f1) + 1)⟩ : S25)) (k25_mkM _ _ _ (⟨(rd_T25 x5_2 t132).f0, wrap64 (((rd_T25 x5_2 t132).f1) + 1)⟩ : S25) ) (fun _ hk => hk)
                              have hx26_1 := hcc26 1 _ rfl
                              (try simp only [show (k25).sz = 2 from rfl, Nat.mul_one, Nat.add_zero] at hx26_1)
                              have hf26_1 := hfr26 1
                              (try simp only [show (k25).sz = 2 from rfl, Nat.mul_one, Nat.add_zero] at hf26_1)
                              clear hcl26 hcc26 hfr26 hM26
                              go_wp2_with (first | ((with_reducible refine gate_store (t := 3) (p := 47) rfl ?_); refine store_event (t := 3) (p := 47) (v := ?vo_w27) (w1 := (wc.setCell ⟨go23, (t132 : Int).toNat * 2 + 1, none⟩ (.int .i64 (wrap64 (((rd_T25 x5_2 t132).f1) + 1))))) ?hg ?ho ?hn ?hr ?_; (case ho => rfl); (case hg => rfl); (case hn => rfl); (case hr => first | (go_simp; done) | (go_simp; rfl)); intro w27 hw; have hg : wc.grownBy w27 (some go23) := (by rw [hw]; exact HP26.2); have hp_ : Kd.R k25 25 w27 w.heap.size (fun _ => True) (.slice (some ⟨go23, 0, none⟩) x5_2.length co14) y134 := (by rw [hw, Ny134.out]; exact HP26.1); clear HP26; have n0_ := Aside0.mk (hp_); have n1_ := Aside0.mk ((by rw [hw]; exact below_set (HB.out) GB23.out : Below w.heap.size w w27)); clear HO_5; clear HB; have HO_5 := n0_; have HB := n1_; clear n0_ n1_; clear hg hw hp_) | ((with_reducible refine gate_callee (f := 15) rfl ?_); refine goesL_ (some 49) rfl rfl Try.func15 (by kernel_rfl) rfl #[.slice (some ⟨go23, 0, none⟩) y134.length co14] rfl (by (try simp only [List.map_toArray, List.map_cons, List.map_nil]); first | done | (rw [show y134.length = x5_2.length from (Kd.R_reads' HO_5.out).1.symm] <;> rfl) | rfl | (simp only [List.length_drop, List.length_take]; rfl)) ?_; (with_reducible refine (wear_Spread.calls kj16 _ _ y134 t135 _ ?side1 ?side2 A24.out).mono ?_); (case side1 => repeat (first | exact (Kd.R_reads' HO_5.out).2.2 | (with_reducible refine Kd.C_alloc ?_ _) | (with_reducible refine Kd.C_drewN ?_ _) | (with_reducible refine Kd.C_drew ?_))); (case side2 => rw [show y134.length = x5_2.length from (Kd.R_reads' HO_5.out).1.symm]; exact (Kd.R_reads' HO_5.out).2.1); rintro e w28 ⟨rfl, hb⟩; refine ⟨_, rfl, ?_⟩; have n0_ := Aside0.mk (Kd.R_below (by (with_reducible repeat (first | apply Kd.R_alloc | apply Kd.R_drewN | apply Kd.R_drew)); exact HO_5.out) hb); have n1_ := Aside0.mk (below_step (by repeat (first | (with_reducible first | exact HB.out | apply below_alloc | apply pw_below_drewN | apply below_drew1) | exact HB.out)) hb); clear HO_5; clear HB; have HO_5 := n0_; have HB := n1_; clear n0_ n1_; (try clear hb); (try clear hb2); (try clear hk); (try clear hi)))
                              go_ret
                              exact ⟨by first | rfl | (simp [errW_none, errW_some] <;> rfl) | (simp only [← hji3]; first | rfl | (simp [errW_none, errW_some] <;> rfl)) | (simp [*, errW_none, errW_some] <;> rfl), by repeat (first | (with_reducible first | exact HB.out | apply below_alloc | apply pw_below_drewN | apply below_drew1) | exact HB.out)⟩
                            · rw [if_neg c25] at H
                              have c25b0 : decide (1 < t135) = false := decide_eq_false c25
                              clear c25
                              have H' := Aside0.mk H
                              clear H
                              have p133 : 0 ≤ (t132 : Int) := of_decide_eq_true (by first | (with_reducible assumption) | assumption)
                              have q133 : t132 < (x5_2.length : Int) := of_decide_eq_true (by first | (with_reducible assumption) | assumption)
                              obtain ⟨ad133, e133, hx133_0, hx133_1⟩ := at_T25 (Kd.R_reads' HO_5.out).2.2 t132 p133 q133
                              cases e133
                              replace p133 := eq_true p133
                              replace q133 := eq_true q133
                              have p23 : 0 ≤ (t132 : Int) := of_decide_eq_true (by first | (with_reducible assumption) | assumption)
                              have q23 : (t132 : Int) < ((x5_2.length : Int) : Int) := of_decide_eq_true (by first | (with_reducible assumption) | assumption)
                              obtain ⟨go23, co23, eo23, gb23, gl23, cl23, HG23⟩ := Kd.R_form HO_5.out (by omega)
                              (first | cases eo23 | (injection eo23 with ea_ en_ ec_; (first | subst ea_ | (injection ea_ with ea_; subst ea_)); subst ec_; clear en_))
                              have GB23 := Aside0.mk gb23
                              have GG23 := Aside0.mk HG23
                              clear gb23 gl23 HG23
                              (first | simp only [add_plain] at hx133_0 | skip)
                              (first | simp only [add_plain] at hx133_1 | skip)
                              obtain ⟨ce23, hcl23, hM23, hcc23, hfr23⟩ := Kd.R_elem HO_5.out z25 (t132 : Int) p23 q23
                              obtain rfl := k25_openM hM23
                              have hx23_0 : wc.cell? ⟨go23, (t132 : Int).toNat * 2, none⟩ = some (.int .i64 ((rd_T25 x5_2 t132).f0)) := hcc23 0 _ rfl
                              have hx23_1 : wc.cell? ⟨go23, (t132 : Int).toNat * 2 + 1, none⟩ = some (.int .i64 ((rd_T25 x5_2 t132).f1)) := hcc23 1 _ rfl
                              have hf23_0 : wc.frozen? ⟨go23, (t132 : Int).toNat * 2, none⟩ = false := hfr23 0
                              have hf23_1 : wc.frozen? ⟨go23, (t132 : Int).toNat * 2 + 1, none⟩ = false := hfr23 1
                              clear hcl23 hcc23 hfr23 hM23
                              replace p23 := eq_true p23
                              replace q23 := eq_true q23
                              have HX29 := Aside0.mk (show Kd.R k25 25 wc w.heap.size (fun _ => True) (.slice (some ⟨go23, 0, none⟩) x5_2.length co14) x5_2 from (by (with_reducible repeat (first | apply Kd.R_alloc | apply Kd.R_drewN | apply Kd.R_drew)); exact HO_5.out))
                              obtain ⟨ce29, hcl29, hM29, hcc29, hfr29⟩ := Kd.R_elem HX29.out z25 (t132 : Int) (of_decide_eq_true (by first | (with_reducible assumption) | assumption)) (by have h_ : (t132 : Int) < ((x5_2.length : Int) : Int) := of_decide_eq_true (by first | (with_reducible assumption) | assumption); first | exact h_ | (have e_ := (Kd.R_reads' HO_5.out).1; omega) | simpa using h_)
                              obtain rfl := k25_openM hM29
                              have HP29 := Kd.R_seg HX29.out (t132 : Int) (of_decide_eq_true (by first | (with_reducible assumption) | assumption)) (by have h_ : (t132 : Int) < ((x5_2.length : Int) : Int) := of_decide_eq_true (by first | (with_reducible assumption) | assumption); first | exact h_ | (have e_ := (Kd.R_reads' HO_5.out).1; omega) | simpa using h_) (seg := [.int .i64 (wrap64 (((rd_T25 x5_2 t132).f1) + 1))]) (j := 1) hcl29 hcc29 (show 2 ≤ 2 from by decide) (x' := (⟨(rd_T25 x5_2 t132).f0, wrap64 (((rd_T25 x5_2 t132).f1) + 1)⟩ : S25)) (k25_mkM _ _ _ (⟨(rd_T25 x5_2 t132).f0, wrap64 (((rd_T25 x5_2 t132).f1) + 1)⟩ : S25) ) (fun _ hk => hk)
                              have hx29_1 := hcc29 1 _ rfl
                              (try simp only [show (k25).sz = 2 from rfl, Nat.mul_one, Nat.add_zero] at hx29_1)
                              have hf29_1 := hfr29 1
                              (try simp only [show (k25).sz = 2 from rfl, Nat.mul_one, Nat.add_zero] at hf29_1)
                              clear hcl29 hcc29 hfr29 hM29
                              go_wp2_with (first | ((with_reducible refine gate_store (t := 3) (p := 47) rfl ?_); refine store_event (t := 3) (p := 47) (v := ?vo_w30) (w1 := (wc.setCell ⟨go23, (t132 : Int).toNat * 2 + 1, none⟩ (.int .i64 (wrap64 (((rd_T25 x5_2 t132).f1) + 1))))) ?hg ?ho ?hn ?hr ?_; (case ho => rfl); (case hg => rfl); (case hn => rfl); (case hr => first | (go_simp; done) | (go_simp; rfl)); intro w30 hw; have hg : wc.grownBy w30 (some go23) := (by rw [hw]; exact HP29.2); have hp_ : Kd.R k25 25 w30 w.heap.size (fun _ => True) (.slice (some ⟨go23, 0, none⟩) x5_2.length co14) y134 := (by rw [hw, Ny134.out]; exact HP29.1); clear HP29; have n0_ := Aside0.mk (hp_); have n1_ := Aside0.mk ((by rw [hw]; exact below_set (HB.out) GB23.out : Below w.heap.size w w30)); clear HO_5; clear HB; have HO_5 := n0_; have HB := n1_; clear n0_ n1_; clear hg hw hp_) | ((with_reducible refine gate_callee (f := 15) rfl ?_); refine goesL_ (some 49) rfl rfl Try.func15 (by kernel_rfl) rfl #[.slice (some ⟨go23, 0, none⟩) y134.length co14] rfl (by (try simp only [List.map_toArray, List.map_cons, List.map_nil]); first | done | (rw [show y134.length = x5_2.length from (Kd.R_reads' HO_5.out).1.symm] <;> rfl) | rfl | (simp only [List.length_drop, List.length_take]; rfl)) ?_; (with_reducible refine (wear_Spread.calls kj16 _ _ y134 t135 _ ?side1 ?side2 A24.out).mono ?_); (case side1 => repeat (first | exact (Kd.R_reads' HO_5.out).2.2 | (with_reducible refine Kd.C_alloc ?_ _) | (with_reducible refine Kd.C_drewN ?_ _) | (with_reducible refine Kd.C_drew ?_))); (case side2 => rw [show y134.length = x5_2.length from (Kd.R_reads' HO_5.out).1.symm]; exact (Kd.R_reads' HO_5.out).2.1); rintro e w31 ⟨rfl, hb⟩; refine ⟨_, rfl, ?_⟩; have n0_ := Aside0.mk (Kd.R_below (by (with_reducible repeat (first | apply Kd.R_alloc | apply Kd.R_drewN | apply Kd.R_drew)); exact HO_5.out) hb); have n1_ := Aside0.mk (below_step (by repeat (first | (with_reducible first | exact HB.out | apply below_alloc | apply pw_below_drewN | apply below_drew1) | exact HB.out)) hb); clear HO_5; clear HB; have HO_5 := n0_; have HB := n1_; clear n0_ n1_; (try clear hb); (try clear hb2); (try clear hk); (try clear hi)))
                              (try simp only [← hl5_2])
                              go_roundg kj16
                              case measure => have := HK1.out; have := HK2.out; have := HJ16.out; omega
                              case rel => exact ⟨(y134), (wrap64 (x7_2 + 1)), (by first | rfl | (simp; done) | (simp [*]; done)), H', ⟨by have := HK1.out; have := HK2.out; have := HJ16.out; omega⟩, ⟨by (try simp only [hl5_2]); (with_reducible repeat (first | apply Kd.R_alloc | apply Kd.R_drewN | apply Kd.R_drew)); exact HO_5.out⟩, ⟨by repeat (first | (with_reducible first | exact HB.out | apply below_alloc | apply pw_below_drewN | apply below_drew1) | exact HB.out)⟩⟩
                          · rw [if_neg c22] at H
                            exact absurd H (by simp)
                        · rw [if_neg c21] at H
                          exact absurd H (by simp)
                · rw [if_neg c15] at H
                  have c15b0 : decide (x7_2 < (Go.bits .and .i64 a1 255)) = false := decide_eq_false c15
                  clear c15
                  replace H := Option.bind_eq_some_iff.mp H
                  obtain ⟨t131, A320, H⟩ := H
                  replace H : (some t131) = some r := H
                  have A32 := Aside0.mk A320
                  clear A320
                  obtain rfl := Option.some.inj H
                  go_wp2_with (first | ((with_reducible refine gate_callee (f := 13) rfl ?_); refine goesL_ (some 51) rfl rfl Try.func13 (by kernel_rfl) rfl #[] rfl (by (try simp only [List.map_toArray, List.map_cons, List.map_nil]); first | done | rfl | (simp only [List.length_drop, List.length_take]; rfl)) ?_; (with_reducible refine (tinderboxlaw11_awake.calls k2  t131 _ A32.out).mono ?_); rintro e w33 ⟨rfl, hb⟩; refine ⟨_, rfl, ?_⟩; have n0_ := Aside0.mk (Kd.R_below (by (with_reducible repeat (first | apply Kd.R_alloc | apply Kd.R_drewN | apply Kd.R_drew)); exact HO_5.out) hb); have n1_ := Aside0.mk (below_step (by repeat (first | (with_reducible first | exact HB.out | apply below_alloc | apply pw_below_drewN | apply below_drew1) | exact HB.out)) hb); clear HO_5; clear HB; have HO_5 := n0_; have HB := n1_; clear n0_ n1_; (try clear hb); (try clear hb2); (try clear hk); (try clear hi)))
                  go_ret
                  exact ⟨by first | rfl | (simp [errW_none, errW_some] <;> rfl) | (simp only [← hji3]; first | rfl | (simp [errW_none, errW_some] <;> rfl)) | (simp [*, errW_none, errW_some] <;> rfl), by repeat (first | (with_reducible first | exact HB.out | apply below_alloc | apply pw_below_drewN | apply below_drew1) | exact HB.out)⟩
    · rw [if_neg c5] at H
      exact absurd H (by simp)
  · rw [if_neg c4] at H
    exact absurd H (by simp)

/-- THE ONE PURE STATEMENT of tinderboxlaw11_WearLevels: yours. -/
def tinderboxlaw11_WearLevels.Pure : Prop := ∀ (a0 : Int) (a1 : Int), (Lit.int .i64 a0).wf = true → (Lit.int .i64 a1).wf = true → ∃ k, tinderboxlaw11_WearLevels.f k a0 a1 = some true
theorem tinderboxlaw11_WearLevels.walk (P : tinderboxlaw11_WearLevels.Pure) (a0 : Int) (a1 : Int) (w : World) (w0 : (Lit.int .i64 a0).wf = true) (w1 : (Lit.int .i64 a1).wf = true) :
    Calls Try.prog 5 #[.int .i64 a0, .int .i64 a1] w fun e w' => e = .returned (.bool true) ∧ Below w.heap.size w w' := by
  obtain ⟨k, h⟩ := P a0 a1 w0 w1
  refine (tinderboxlaw11_WearLevels.calls k a0 a1 true w h).mono ?_
  rintro e w' ⟨rfl, hd⟩
  exact ⟨rfl, hd⟩

end Go.Proofs.Ytbbfngnfphmohaa.PWearLevels
