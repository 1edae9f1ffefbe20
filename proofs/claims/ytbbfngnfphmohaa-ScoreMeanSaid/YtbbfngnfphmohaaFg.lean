/- Helper: the statement on the mean of numbers, walked. No condition. -/
import Derived.Test.YtbbfngnfphmohaaFe
namespace Go.Proofs.Ytbbfngnfphmohaa.Fl
open Go.RowKit Go.Proofs.YtbbfngnfphmohaaW.PrintWords
theorem ar_not_nan {op : BinOp} {x y : Option Nat} {r : Nat} (h : ar op x y = some r) : nanB r = false := by
  cases x with
  | none => cases h
  | some a =>
    cases y with
    | none => cases h
    | some b => exact floatBits_not_nan op a b r h
theorem mnO_not_nan (l : List Nat) : ∀ i v, mnO l i = some v → nanB v = false
  | 0, v, h => by
    obtain rfl : 0 = v := by simpa [mnO] using h
    decide +kernel
  | i + 1, v, h => by
    rw [mnO_succ] at h
    split at h
    · exact ar_not_nan h
    · exact mnO_not_nan l i v h
theorem eq_self {v : Nat} (h : nanB v = false) : (FloatKind.f64.format.order v v == some .eq) = true := by
  unfold nanB at h
  simpa using h
theorem eq_nan {a b : Nat} (h : nanB a = true) : (FloatKind.f64.format.order a b == some .eq) = false := by
  obtain ⟨n, f, e⟩ := read_nan h
  show (Ieee.double.order a b == some .eq) = false
  unfold Ieee.Format.order
  rw [e]
  rfl
def LawRel (y : List Nat) (wc : World) (s n i : Value) (wr : World) : Prop := ∃ k b : Nat, k ≤ y.length ∧ i = .int .i64 k ∧ n = .int .i64 (cnt y k) ∧ s = .float .f64 b ∧ Rf (mnO y k) b ∧ Below wc.heap.size wc wr
set_option maxRecDepth 100000 in
set_option maxHeartbeats 1600000 in
theorem ScoreMean_any (l : List Nat) (A : Option Addr) (c : Nat) (w : World) (hr : Kd.C kf w A l.length l) (hc : l.length ≤ c) (hcm : c ≤ 9223372036854775807) :
    Calls Try.prog 8 #[.slice A l.length c] w fun e w' => e = .returned (.bool true) ∧ Below w.heap.size w w' := by
  have hA : A.map (fun x => x.add 0) = A := by cases A <;> simp [Addr.add]
  have HA := Lib.hid hA
  clear hA
  go_enter Try.func8, Try.ntmps8
  go_upto_region 2 with fail
  go_cut [3, 4, 5] (fun s a b wx => s = .slice A (l.take 100).length c ∧ a = .float .f64 0 ∧ b = .int .i64 0 ∧ wx = w)
  case first =>
    by_cases h : 100 < l.length
    · have hcut := cut_to (P := Try.prog) 39 33 .i64 Try.underlying39 (i := (Try.prog.info? 33).get (by kernel_rfl)) (by kernel_rfl) A l.length c 100 (by omega) (by omega) hc
      go_wp2
      all_goals (go_meet; exact ⟨slice_val (by rw [List.length_take]; omega), rfl, rfl, rfl⟩)
    · have hcut := cut_to (P := Try.prog) 39 33 .i64 Try.underlying39 (i := (Try.prog.info? 33).get (by kernel_rfl)) (by kernel_rfl) A l.length c l.length (by omega) (by omega) hc
      go_wp2
      all_goals (go_meet; exact ⟨slice_val (by rw [List.length_take]; omega), rfl, rfl, rfl⟩)
  case rest =>
    obtain ⟨rfl, rfl, rfl, rfl⟩ := hcut
    have hr' := Kd.C_take hr (m := min 100 l.length) (by omega)
    have hy : (l.take (min 100 l.length)) = l.take 100 := by rcases Nat.le_total 100 l.length with h | h <;> simp [Nat.min_eq_left, Nat.min_eq_right, h, List.take_of_length_le]
    rw [hy] at hr'
    have hyl : (l.take 100).length ≤ 9223372036854775807 := by rw [List.length_take]; omega
    generalize l.take 100 = y at hr' hyl ⊢
    clear hy hr
    go_wp2
    go_loopw [4, 5, 6] (fun s n i wr => LawRel y wc s n i wr) (fun _ _ i _ => y.length - (intOf i).toNat)
    case atStart => exact ⟨0, 0, Nat.zero_le _, rfl, rfl, rfl, rfl, Below.refl _ _⟩
    case round =>
      obtain ⟨k, b, hk, rfl, rfl, rfl, hR, hB⟩ := hrel
      have HB := Lib.hid hB
      have hcl := cnt_le y k
      have hrr := Kd.C_below hr' hB
      clear hB
      by_cases hlt : k < y.length
      · obtain ⟨ad, e, hcell⟩ := at_kf hrr k (by omega) (by omega)
        cases e
        rw [Int.toNat_natCast] at hcell
        have Hc := Lib.hid (cnt_succ y k)
        have Hm := Lib.hid (mnO_succ y k)
        cases hn : nanB (at0 y k)
        · cases hg : gtMax (absB (at0 y k))
          · have Hf := Lib.hid (show finB (at0 y k) = true by unfold finB; rw [hn, hg]; rfl)
            go_wp2_with (first | (go_at_call 20; refine (isNaN_any _ _).mono ?_; rintro e w' ⟨rfl, rfl⟩) | (go_at_call 22; refine (isInf_zero _ _).mono ?_; rintro e w' ⟨rfl, rfl⟩))
            go_roundw
            case rel => exact ⟨k + 1, _, by omega, by go_num, by rw [Hc.out, if_pos Hf.out, nat_succ], rfl, by rw [Hm.out, if_pos Hf.out]; exact rf_op _ hR (rf_op _ (rf_op _ (rf_some _) hR _) (rf_some _) _) _, below_drewN HB.out _⟩
            case measure => simp [intOf]; omega
          · have Hf := Lib.hid (show finB (at0 y k) = false by unfold finB; rw [hn, hg]; rfl)
            go_wp2_with (first | (go_at_call 20; refine (isNaN_any _ _).mono ?_; rintro e w' ⟨rfl, rfl⟩) | (go_at_call 22; refine (isInf_zero _ _).mono ?_; rintro e w' ⟨rfl, rfl⟩))
            go_roundw
            case rel => exact ⟨k + 1, _, by omega, by go_num, by rw [Hc.out, if_neg (by rw [Hf.out]; decide)], rfl, by rw [Hm.out, if_neg (by rw [Hf.out]; decide)]; exact hR, HB.out⟩
            case measure => simp [intOf]; omega
        · have Hf := Lib.hid (show finB (at0 y k) = false by unfold finB; rw [hn]; rfl)
          go_wp2_with (go_at_call 20; refine (isNaN_any _ _).mono ?_; rintro e w' ⟨rfl, rfl⟩)
          go_roundw
          case rel => exact ⟨k + 1, _, by omega, by go_num, by rw [Hc.out, if_neg (by rw [Hf.out]; decide)], rfl, by rw [Hm.out, if_neg (by rw [Hf.out]; decide)]; exact hR, HB.out⟩
          case measure => simp [intOf]; omega
      · obtain rfl : k = y.length := by omega
        go_wp2_with fail
        refine (mean_any y A c _ hrr hyl).mono ?_
        rintro e w1 ⟨r, n, rfl, hr1, rfl⟩
        have HR := Lib.hid hR
        have HR1 := Lib.hid hr1
        clear hR hr1
        by_cases h0 : cnt y y.length = 0
        · have h0b : ((cnt y y.length : Int) == 0) = true := by rw [h0]; rfl
          have hnr : nanB r = true := by
            have h := HR1.out
            unfold meanO at h
            rw [if_pos h0] at h
            exact h
          clear h0
          go_wp2_with (first | (go_at_call 18; refine (awake_any _).mono ?_; rintro e w2 ⟨rfl, hb2⟩) | (go_at_call 20; refine (isNaN_any _ _).mono ?_; rintro e w' ⟨rfl, rfl⟩))
          go_ret
          exact ⟨rfl, (below_drewN HB.out n).trans (hb2.mono HB.out.size)⟩
        · have h0b : ((cnt y y.length : Int) == 0) = false := beq_eq_false_iff_ne.2 (by omega)
          have hm : meanO y = mnO y y.length := by unfold meanO; rw [if_neg h0]
          clear h0
          cases hv : mnO y y.length with
          | some v =>
            obtain rfl : b = v := by have h := HR.out; rw [hv] at h; exact h
            obtain rfl : r = b := by have h := HR1.out; rw [hm, hv] at h; exact h
            have heq := eq_self (mnO_not_nan y _ _ hv)
            clear hv hm
            go_wp2_with (first | (go_at_call 18; refine (awake_any _).mono ?_; rintro e w2 ⟨rfl, hb2⟩) | (go_at_call 20; refine (isNaN_any _ _).mono ?_; rintro e w' ⟨rfl, rfl⟩))
            go_ret
            exact ⟨rfl, (below_drewN HB.out n).trans (hb2.mono HB.out.size)⟩
          | none =>
            have hnb : nanB b = true := by have h := HR.out; rw [hv] at h; exact h
            have hnr : nanB r = true := by have h := HR1.out; rw [hm, hv] at h; exact h
            have heq := eq_nan (b := b) hnr
            clear hv hm
            go_wp2_with (first | (go_at_call 18; refine (awake_any _).mono ?_; rintro e w2 ⟨rfl, hb2⟩) | (go_at_call 20; refine (isNaN_any _ _).mono ?_; rintro e w' ⟨rfl, rfl⟩))
            go_ret
            exact ⟨rfl, (below_drewN HB.out n).trans (hb2.mono HB.out.size)⟩
end Go.Proofs.Ytbbfngnfphmohaa.Fl
