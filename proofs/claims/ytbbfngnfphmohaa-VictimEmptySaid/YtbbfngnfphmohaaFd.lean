/- Helper: the mean of numbers that are finite, walked. No condition. -/
import Derived.Test.YtbbfngnfphmohaaFc
namespace Go.Proofs.Ytbbfngnfphmohaa.Fl
open Go.RowKit Go.Proofs.YtbbfngnfphmohaaW.PrintWords
def finB (b : Nat) : Bool := !nanB b && !gtMax (absB b)
/-- How many of the first ones are finite; their mean, step by step. -/
def cnt (l : List Nat) : Nat → Nat
  | 0 => 0
  | i + 1 => if finB (at0 l i) = true then cnt l i + 1 else cnt l i
def mnO (l : List Nat) : Nat → Option Nat
  | 0 => some 0
  | i + 1 => if finB (at0 l i) = true then ar .add (mnO l i) (ar .quo (ar .sub (some (at0 l i)) (mnO l i)) (some (flI (cnt l i + 1)))) else mnO l i
theorem cnt_succ (l : List Nat) (i : Nat) : cnt l (i + 1) = if finB (at0 l i) = true then cnt l i + 1 else cnt l i := rfl
theorem mnO_succ (l : List Nat) (i : Nat) : mnO l (i + 1) = if finB (at0 l i) = true then ar .add (mnO l i) (ar .quo (ar .sub (some (at0 l i)) (mnO l i)) (some (flI (cnt l i + 1)))) else mnO l i := rfl
theorem cnt_le (l : List Nat) : ∀ i, cnt l i ≤ i
  | 0 => Nat.le_refl _
  | i + 1 => by
    have := cnt_le l i
    rw [cnt_succ]
    split <;> omega
/-- What the mean is: none, where nothing is finite. -/
def meanO (l : List Nat) : Option Nat := if cnt l l.length = 0 then none else mnO l l.length
def MeanPost (l : List Nat) (w : World) (e : Ending) (w' : World) : Prop := ∃ r n, e = .returned (.float .f64 r) ∧ Rf (meanO l) r ∧ w' = w.drewN n
theorem meanPost_mk {l : List Nat} {w : World} {r n : Nat} (h : Rf (meanO l) r) : MeanPost l w (.returned (.float .f64 r)) (w.drewN n) := ⟨r, n, rfl, h, rfl⟩
def MeanRel (l : List Nat) (w : World) (s n i : Value) (wr : World) : Prop := ∃ k b j : Nat, k ≤ l.length ∧ i = .int .i64 k ∧ n = .int .i64 (cnt l k) ∧ s = .float .f64 b ∧ Rf (mnO l k) b ∧ wr = w.drewN j
theorem nat_succ (n : Nat) : ((n + 1 : Nat) : Int) = (n : Int) + 1 := by omega
set_option maxRecDepth 100000 in
set_option maxHeartbeats 800000 in
theorem mean_any (l : List Nat) (A : Option Addr) (c : Nat) (w : World) (hr : Kd.C kf w A l.length l) (hc : l.length ≤ 9223372036854775807) :
    Calls Try.prog 23 #[.slice A l.length c] w (MeanPost l w) := by
  go_enter Try.func23, Try.ntmps23
  go_wp2
  go_loopw [3, 4, 9] (fun s n i wr => MeanRel l w s n i wr) (fun _ _ i _ => l.length - (intOf i).toNat)
  case atStart => exact ⟨0, 0, 0, Nat.zero_le _, rfl, rfl, rfl, rfl, rfl⟩
  case round =>
    obtain ⟨k, b, j, hk, rfl, rfl, rfl, hR, rfl⟩ := hrel
    have hcl := cnt_le l k
    by_cases hlt : k < l.length
    · obtain ⟨ad, e, hcell⟩ := at_kf hr k (by omega) (by omega)
      cases e
      rw [Int.toNat_natCast] at hcell
      have Hc := Lib.hid (cnt_succ l k)
      have Hm := Lib.hid (mnO_succ l k)
      cases hn : nanB (at0 l k)
      · cases hg : gtMax (absB (at0 l k))
        · have Hf := Lib.hid (show finB (at0 l k) = true by unfold finB; rw [hn, hg]; rfl)
          go_wp2_with (first | (go_at_call 20; refine (isNaN_any _ _).mono ?_; rintro e w' ⟨rfl, rfl⟩) | (go_at_call 22; refine (isInf_zero _ _).mono ?_; rintro e w' ⟨rfl, rfl⟩))
          go_roundw
          case rel => exact ⟨k + 1, _, _, by omega, by go_num, by rw [Hc.out, if_pos Hf.out, nat_succ], rfl, by rw [Hm.out, if_pos Hf.out]; exact rf_op _ hR (rf_op _ (rf_op _ (rf_some _) hR _) (rf_some _) _) _, rfl⟩
          case measure => simp [intOf]; omega
        · have Hf := Lib.hid (show finB (at0 l k) = false by unfold finB; rw [hn, hg]; rfl)
          go_wp2_with (first | (go_at_call 20; refine (isNaN_any _ _).mono ?_; rintro e w' ⟨rfl, rfl⟩) | (go_at_call 22; refine (isInf_zero _ _).mono ?_; rintro e w' ⟨rfl, rfl⟩))
          go_roundw
          case rel => exact ⟨k + 1, _, _, by omega, by go_num, by rw [Hc.out, if_neg (by rw [Hf.out]; decide)], rfl, by rw [Hm.out, if_neg (by rw [Hf.out]; decide)]; exact hR, rfl⟩
          case measure => simp [intOf]; omega
      · have Hf := Lib.hid (show finB (at0 l k) = false by unfold finB; rw [hn]; rfl)
        go_wp2_with (go_at_call 20; refine (isNaN_any _ _).mono ?_; rintro e w' ⟨rfl, rfl⟩)
        go_roundw
        case rel => exact ⟨k + 1, _, _, by omega, by go_num, by rw [Hc.out, if_neg (by rw [Hf.out]; decide)], rfl, by rw [Hm.out, if_neg (by rw [Hf.out]; decide)]; exact hR, rfl⟩
        case measure => simp [intOf]; omega
    · obtain rfl : k = l.length := by omega
      by_cases h0 : cnt l l.length = 0
      · have hm : meanO l = none := by unfold meanO; rw [if_pos h0]
        have h0b : ((cnt l l.length : Int) == 0) = true := by rw [h0]; rfl
        have Hm := Lib.hid hm
        clear hm h0
        go_wp2_with (go_at_call 28; refine (nan_any _).mono ?_; rintro e w' ⟨rfl, rfl⟩)
        go_ret
        exact meanPost_mk (by rw [Hm.out]; show nanB 9221120237041090561 = true; decide +kernel)
      · have hm : meanO l = mnO l l.length := by unfold meanO; rw [if_neg h0]
        have h0b : ((cnt l l.length : Int) == 0) = false := beq_eq_false_iff_ne.2 (by omega)
        have Hm := Lib.hid hm
        clear hm
        go_wp2
        go_ret
        exact meanPost_mk (by rw [Hm.out]; exact hR)
end Go.Proofs.Ytbbfngnfphmohaa.Fl
