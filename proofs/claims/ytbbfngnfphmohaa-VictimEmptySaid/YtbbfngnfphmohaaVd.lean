/- Helper: the statement on the choice of a block, walked. No condition. -/
import Derived.Test.YtbbfngnfphmohaaVc
import Derived.StillTailTactics
namespace Go.Proofs.Ytbbfngnfphmohaa.Fl
open Go.RowKit Go.Proofs.YtbbfngnfphmohaaW.PrintWords Go.Proofs.Ytbbfngnfphmohaa.Later
def ChoosesRel (y : List Seen) (w : World) (b f i : Value) (wr : World) : Prop :=
  ∃ (k u : Nat), k ≤ y.length ∧ i = .int .i64 k ∧ b = .int .i64 (cho y k) ∧ f = .float .f64 u ∧ (0 ≤ cho y k → cand y (cho y k).toNat = some u) ∧ Below w.heap.size w wr
theorem cho_skip {y : List Seen} {k : Nat} (h : cand y k = none) : cho y (k + 1) = cho y k := by rw [cho_succ, h]; rfl
theorem cho_first {y : List Seen} {k v : Nat} (h : cand y k = some v) (h0 : cho y k < 0) : cho y (k + 1) = k := by
  rw [cho_succ, h]
  unfold beats
  simp only [decide_eq_true h0, Bool.true_or, if_true]
theorem cho_next {y : List Seen} {k v u : Nat} (h : cand y k = some v) (h0 : ¬ cho y k < 0) (hu : cand y (cho y k).toNat = some u) : cho y (k + 1) = if 0 < ordB v u then (k : Int) else cho y k := by
  rw [cho_succ, h, hu]
  unfold beats
  simp only [decide_eq_false h0, Bool.false_or, decide_eq_true_eq]
set_option maxRecDepth 100000 in
set_option maxHeartbeats 1600000 in
theorem VictimChooses_any (l : List Seen) (A : Option Addr) (c : Nat) (w : World) (hr : Kd.C ks w A l.length l) (hc : l.length ≤ c) (hcm : c ≤ 9223372036854775807) :
    Calls Try.prog 9 #[.slice A l.length c] w fun e w' => e = .returned (.bool true) ∧ Below w.heap.size w w' := by
  have hr' := C_few hr
  have hyl : (l.take 40).length ≤ 40 := by rw [List.length_take]; omega
  have HF := Lib.hid (few_any l A c w hc hcm)
  go_enter Try.func9, Try.ntmps9
  go_wp2_with fail
  refine HF.out.mono ?_
  rintro e w1 ⟨rfl, rfl⟩
  clear HF
  generalize l.take 40 = y at hr' hyl ⊢
  go_wp2
  go_loopw [4, 5, 6] (fun b f i wr => ChoosesRel y w b f i wr) (fun _ _ i _ => y.length - (intOf i).toNat)
  case atStart => exact ⟨0, 0, Nat.zero_le _, rfl, rfl, rfl, fun h => by simp [cho] at h, Below.refl _ _⟩
  case round =>
    obtain ⟨k, u, hk, rfl, rfl, rfl, hu, hB⟩ := hrel
    have hrr := Kd.C_below hr' hB
    have HB := Lib.hid hB
    have HU := Lib.hid hu
    clear hB hu
    by_cases hlt : k < y.length
    · obtain ⟨ad, e, h0, h1, h2, h3⟩ := at_ks hrr k (by omega) (by omega)
      cases e
      rw [Int.toNat_natCast] at h0 h1 h2 h3
      clear h0
      go_upto_region 5 with fail
      go_still_tail 16, (by kernel_rfl)
      go_wp2_with fail
      refine (of_any _ _ _ _).mono ?_
      rintro e w2 ⟨r, rfl, hr1, hb1⟩
      have hB2 := (below_drewN HB.out 1).trans (hb1.mono HB.out.size)
      have g1 : w2.cell? _ = _ := (hb1.cell (World.block_lt_of_cell? wr _ h1)).trans h1
      have g2 : w2.cell? _ = _ := (hb1.cell (World.block_lt_of_cell? wr _ h2)).trans h2
      have HB2 := Lib.hid hB2
      have HR := Lib.hid hr1
      clear hB2 hr1 hb1 HB h1 h2 h3
      have kl1 := fun n => later_cell g1 n
      have kl2 := fun n => later_cell g2 n
      by_cases hlp : (sn y k).live < (sn y k).pages
      · have hlb : decide ((sn y k).pages ≤ (sn y k).live) = false := decide_eq_false (by omega)
        have Hc := Lib.hid (show cand y k = ofO (sn y k).live (sn y k).pages (sn y k).age by unfold cand; rw [if_pos hlp])
        cases hv : ofO (sn y k).live (sn y k).pages (sn y k).age with
        | none =>
          have hn : nanB r = true := by have h := HR.out; rw [hv] at h; exact h
          have Hs := Lib.hid (cho_skip (by rw [Hc.out, hv]))
          clear hv hlp
          go_upto_region 6 with fail
          refine wp_region_later (by kernel_rfl) (by kernel_rfl) ?_
          repeat (any_goals (first | go_big_quiet_step ((go_at_call 20; exact calls_later_same (fun w3 _ => isNaN_any _ w3) _)) | quiet_step ((go_at_call 20; exact calls_later_same (fun w3 _ => isNaN_any _ w3) _))))
          refine wpQuiet_nil ?_
          intro w3 hw3
          have hb3 := later_of hw3
          clear hw3 kl1 kl2 g1 g2
          go_wp2
          go_roundw
          case rel => exact ⟨k + 1, u, by omega, by go_num, by rw [Hs.out], rfl, by rw [Hs.out]; exact HU.out, HB2.out.trans (hb3.mono HB2.out.size)⟩
          case measure => simp [intOf]; omega
        | some v =>
          obtain rfl : r = v := by have h := HR.out; rw [hv] at h; exact h
          have hn : nanB r = false := ofO_not_nan hv
          have Hv := Lib.hid (show cand y k = some r by rw [Hc.out, hv])
          clear hv hlp
          go_upto_region 6 with fail
          refine wp_region_later (by kernel_rfl) (by kernel_rfl) ?_
          repeat (any_goals (first | go_big_quiet_step ((go_at_call 20; exact calls_later_same (fun w3 _ => isNaN_any _ w3) _)) | quiet_step ((go_at_call 20; exact calls_later_same (fun w3 _ => isNaN_any _ w3) _))))
          refine wpQuiet_nil ?_
          intro w3 hw3
          have HB3 := Lib.hid (HB2.out.trans ((later_of hw3).mono HB2.out.size))
          clear hw3 kl1 kl2 g1 g2
          by_cases hneg : cho y k < 0
          · have hnb : decide (cho y k < 0) = true := decide_eq_true hneg
            have Hs := Lib.hid (cho_first Hv.out hneg)
            go_wp2
            go_roundw
            case rel => exact ⟨k + 1, r, by omega, by go_num, by rw [Hs.out], rfl, by rw [Hs.out]; exact fun _ => by rw [Int.toNat_natCast]; exact Hv.out, HB3.out⟩
            case measure => simp [intOf]; omega
          · have hnb : decide (cho y k < 0) = false := decide_eq_false hneg
            have Hs := Lib.hid (cho_next Hv.out hneg (HU.out (by omega)))
            go_wp2_with (go_at_call 19; refine (order_any _ _ _).mono ?_; rintro e w' ⟨rfl, rfl⟩)
            · go_roundw
              case rel => exact ⟨k + 1, r, by omega, by go_num, by rw [Hs.out, if_pos (by omega)], rfl, by rw [Hs.out, if_pos (by omega)]; exact fun _ => by rw [Int.toNat_natCast]; exact Hv.out, HB3.out⟩
              case measure => simp [intOf]; omega
            · go_roundw
              case rel => exact ⟨k + 1, u, by omega, by go_num, by rw [Hs.out, if_neg (by omega)], rfl, by rw [Hs.out, if_neg (by omega)]; exact HU.out, HB3.out⟩
              case measure => simp [intOf]; omega
      · have hlb : decide ((sn y k).pages ≤ (sn y k).live) = true := decide_eq_true (by omega)
        have Hs := Lib.hid (cho_skip (y := y) (k := k) (by unfold cand; rw [if_neg hlp]))
        go_upto_region 6 with fail
        refine wp_region_later (by kernel_rfl) (by kernel_rfl) ?_
        repeat (any_goals (first | go_big_quiet_step ((go_at_call 20; exact calls_later_same (fun w3 _ => isNaN_any _ w3) _)) | quiet_step ((go_at_call 20; exact calls_later_same (fun w3 _ => isNaN_any _ w3) _))))
        refine wpQuiet_nil ?_
        intro w3 hw3
        have hb3 := later_of hw3
        clear hw3 kl1 kl2 g1 g2
        go_wp2
        go_roundw
        case rel => exact ⟨k + 1, u, by omega, by go_num, by rw [Hs.out], rfl, by rw [Hs.out]; exact HU.out, HB2.out.trans (hb3.mono HB2.out.size)⟩
        case measure => simp [intOf]; omega
    · obtain rfl : k = y.length := by omega
      go_wp2_with fail
      refine (awake12_any _).mono ?_
      rintro e w1 ⟨rfl, hb1⟩
      have hr1 := Kd.C_below hrr hb1
      go_wp2_with fail
      refine (choose_any y A c w1 hr1 (by omega)).mono ?_
      rintro e w2 ⟨rfl, hb2⟩
      have HB2 := Lib.hid (HB.out.trans ((hb1.trans (hb2.mono hb1.size)).mono HB.out.size))
      go_wp2
      go_ret
      exact ⟨rfl, HB2.out⟩
end Go.Proofs.Ytbbfngnfphmohaa.Fl
