/- Helper: the statement on the best of numbers, walked. No condition. -/
import Derived.Test.YtbbfngnfphmohaaFd
import Derived.Deep.DeepCutAuto
namespace Go.Proofs.Ytbbfngnfphmohaa.Fl
open Go.RowKit Go.Proofs.YtbbfngnfphmohaaW.PrintWords
theorem slice_val {A : Option Addr} {a b c : Nat} (h : a = b) : Value.slice A a c = .slice A b c := by rw [h]
theorem order_same (a b : Nat) (w : World) : Calls Try.prog 19 #[.float .f64 a, .float .f64 b] w fun e w' => e = .returned (.int .i64 (ordB a b)) ∧ w' = w := (order_any a b w).mono fun _ _ h => ⟨h.1, h.2.symm⟩
set_option maxRecDepth 100000 in
set_option maxHeartbeats 1600000 in
theorem ScoreBest_any (l : List Nat) (A : Option Addr) (c : Nat) (w : World) (hr : Kd.C kf w A l.length l) (hc : l.length ≤ c) (hcm : c ≤ 9223372036854775807) :
    Calls Try.prog 7 #[.slice A l.length c] w fun e w' => e = .returned (.bool true) ∧ Below w.heap.size w w' := by
  have hA : A.map (fun x => x.add 0) = A := by cases A <;> simp [Addr.add]
  have HA := Lib.hid hA
  clear hA
  go_enter Try.func7, Try.ntmps7
  go_upto_region 2 with fail
  go_cut [3, 4] (fun s b wx => s = .slice A (l.take 100).length c ∧ b = .int .i64 (-1) ∧ wx = w)
  case first =>
    by_cases h : 100 < l.length
    · have hcut := cut_to (P := Try.prog) 39 33 .i64 Try.underlying39 (i := (Try.prog.info? 33).get (by kernel_rfl)) (by kernel_rfl) A l.length c 100 (by omega) (by omega) hc
      go_wp2
      all_goals (go_meet; exact ⟨slice_val (by rw [List.length_take]; omega), rfl, rfl⟩)
    · have hcut := cut_to (P := Try.prog) 39 33 .i64 Try.underlying39 (i := (Try.prog.info? 33).get (by kernel_rfl)) (by kernel_rfl) A l.length c l.length (by omega) (by omega) hc
      go_wp2
      all_goals (go_meet; exact ⟨slice_val (by rw [List.length_take]; omega), rfl, rfl⟩)
  case rest =>
    obtain ⟨rfl, rfl, rfl⟩ := hcut
    have hr' := Kd.C_take hr (m := min 100 l.length) (by omega)
    have hy : (l.take (min 100 l.length)) = l.take 100 := by rcases Nat.le_total 100 l.length with h | h <;> simp [Nat.min_eq_left, Nat.min_eq_right, h, List.take_of_length_le]
    rw [hy] at hr'
    have hyl : (l.take 100).length ≤ 9223372036854775807 := by rw [List.length_take]; omega
    generalize l.take 100 = y at hr' hyl ⊢
    clear hy hr
    go_wp2
    go_loopw [4, 5] (fun b i wr => ∃ k : Nat, k ≤ y.length ∧ i = .int .i64 k ∧ b = .int .i64 (bst y k) ∧ Hid (Below wc.heap.size wc wr)) (fun _ i _ => y.length - (intOf i).toNat)
    case atStart => exact ⟨0, Nat.zero_le _, rfl, rfl, Lib.hid (Below.refl _ _)⟩
    case round =>
      obtain ⟨k, hk, rfl, rfl, HB⟩ := hrel
      have hrr := Kd.C_below hr' HB.out
      by_cases hlt : k < y.length
      · obtain ⟨ad, e, hcell⟩ := at_kf hrr k (by omega) (by omega)
        cases e
        rw [Int.toNat_natCast] at hcell
        have hb := bst_in y k
        have hs := bst_succ y k
        have Hs := Lib.hid hs
        clear hs
        cases hn : nanB (at0 y k)
        · by_cases h0 : bst y k < 0
          · have hbt : better y (bst y k) k = true := by unfold better; rw [hn, decide_eq_true h0]; rfl
            have h0b : decide (bst y k < 0) = true := decide_eq_true h0
            have Hbt := Lib.hid hbt
            clear hbt
            go_wp2_with (first | (go_at_call 20; refine (isNaN_any _ _).mono ?_; rintro e w' ⟨rfl, rfl⟩))
            go_quiet ((go_at_call 19; exact Calls.quiet_of_same (order_same _ _ _)))
            go_wp2
            go_roundw
            case rel => exact ⟨k + 1, by omega, by go_num, by rw [Hs.out, if_pos Hbt.out], Lib.hid (below_drewN HB.out _)⟩
            case measure => simp [intOf]; omega
          · have h0' : 0 ≤ bst y k := by omega
            obtain ⟨ad', e', hcell'⟩ := at_kf hrr (bst y k) h0' (by omega)
            cases e'
            have h0b : decide (bst y k < 0) = false := decide_eq_false h0
            have hlt2 : bst y k < (y.length : Int) := by omega
            have hbt : better y (bst y k) k = decide (0 < ordB (at0 y k) (at0 y (bst y k).toNat)) := by unfold better; rw [hn, decide_eq_false h0]; rfl
            have Hbt := Lib.hid hbt
            clear hbt
            go_wp2_with (first | (go_at_call 20; refine (isNaN_any _ _).mono ?_; rintro e w' ⟨rfl, rfl⟩))
            go_quiet ((go_at_call 19; exact Calls.quiet_of_same (order_same _ _ _)))
            go_wp2
            · go_roundw
              case rel => exact ⟨k + 1, by omega, by go_num, by rw [Hs.out, Hbt.out, decide_eq_true (by omega), if_pos rfl], Lib.hid (below_drewN HB.out _)⟩
              case measure => simp [intOf]; omega
            · go_roundw
              case rel => exact ⟨k + 1, by omega, by go_num, by rw [Hs.out, Hbt.out, decide_eq_false (by omega), if_neg (by decide)], Lib.hid (below_drewN HB.out _)⟩
              case measure => simp [intOf]; omega
        · have hbt : better y (bst y k) k = false := by unfold better; rw [hn]; rfl
          have Hbt := Lib.hid hbt
          clear hbt
          go_wp2_with (go_at_call 20; refine (isNaN_any _ _).mono ?_; rintro e w' ⟨rfl, rfl⟩)
          go_roundw
          case rel => exact ⟨k + 1, by omega, by go_num, by rw [Hs.out, Hbt.out, if_neg (by decide)], HB⟩
          case measure => simp [intOf]; omega
      · obtain rfl : k = y.length := by omega
        go_wp2_with fail
        refine (awake_any _).mono ?_
        rintro e w1 ⟨rfl, hb1⟩
        have hr1 : Kd.C kf w1 A y.length y := Kd.C_below hrr hb1
        go_wp2_with fail
        refine (best_any y A c w1 hr1 hyl).mono ?_
        rintro e w2 ⟨rfl, rfl⟩
        go_wp2
        go_ret
        exact ⟨rfl, HB.out.trans (hb1.mono HB.out.size)⟩
end Go.Proofs.Ytbbfngnfphmohaa.Fl
