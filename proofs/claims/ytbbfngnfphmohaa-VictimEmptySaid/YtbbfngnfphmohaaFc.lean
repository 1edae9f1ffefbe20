/- Helper: the best of numbers, and their mean, walked. No condition. -/
import Derived.Test.YtbbfngnfphmohaaFb
import Derived.Test.YtbbfngnfphmohaaWMore
import Derived.Deep.LoopGhost
namespace Go.Proofs.Ytbbfngnfphmohaa.Fl
open Go.RowKit Go.Proofs.YtbbfngnfphmohaaW.PrintWords
def kf : Kd Nat := Kd.scalar (Value.float .f64) (fun _ => rfl)
def at0 (l : List Nat) (k : Nat) : Nat := l.getD k 0
theorem at_kf {w : World} {A : Option Addr} {n : Nat} {xs : List Nat} (h : Kd.C kf w A n xs) (i : Int) (h0 : 0 ≤ i) (h1 : i < n) : ∃ ad, A = some ad ∧ w.cell? (ad.add i.toNat) = some (.float .f64 (at0 xs i.toNat)) := by
  obtain ⟨ad, c, e, _, hK, hc⟩ := Kd.C_get h 0 i h0 h1
  obtain rfl : c = [.float .f64 (xs.getD i.toNat 0)] := hK
  refine ⟨ad, e, ?_⟩
  have := hc 0 _ rfl
  rwa [show kf.sz = 1 from rfl, Nat.mul_one, Nat.add_zero] at this
/-- The place of the best of the first ones. -/
def better (l : List Nat) (b : Int) (i : Nat) : Bool := !nanB (at0 l i) && (decide (b < 0) || decide (ordB (at0 l i) (at0 l b.toNat) > 0))
def bst (l : List Nat) : Nat → Int
  | 0 => -1
  | i + 1 => if better l (bst l i) i = true then (i : Int) else bst l i
theorem bst_succ (l : List Nat) (i : Nat) : bst l (i + 1) = if better l (bst l i) i = true then (i : Int) else bst l i := rfl
theorem bst_in (l : List Nat) : ∀ i, -1 ≤ bst l i ∧ bst l i < i
  | 0 => by simp [bst]
  | i + 1 => by
    have := bst_in l i
    rw [bst_succ]
    split <;> omega
set_option maxRecDepth 100000 in
set_option maxHeartbeats 800000 in
theorem best_any (l : List Nat) (A : Option Addr) (c : Nat) (w : World) (hr : Kd.C kf w A l.length l) (hc : l.length ≤ 9223372036854775807) :
    Calls Try.prog 21 #[.slice A l.length c] w fun e w' => e = .returned (.int .i64 (bst l l.length)) ∧ w = w' := by
  go_enter Try.func21, Try.ntmps21
  go_wp2
  go_loop [3, 8] (fun b i => ∃ k : Nat, k ≤ l.length ∧ i = .int .i64 k ∧ b = .int .i64 (bst l k)) (fun _ i => l.length - (intOf i).toNat)
  case atStart => exact ⟨0, Nat.zero_le _, rfl, rfl⟩
  case round =>
    obtain ⟨k, hk, rfl, rfl⟩ := hrel
    by_cases hlt : k < l.length
    · obtain ⟨ad, e, hcell⟩ := at_kf hr k (by omega) (by omega)
      cases e
      rw [Int.toNat_natCast] at hcell
      have hb := bst_in l k
      have hs := bst_succ l k
      have Hs := Lib.hid hs
      clear hs
      cases hn : nanB (at0 l k)
      · by_cases h0 : bst l k < 0
        · have hbt : better l (bst l k) k = true := by unfold better; rw [hn, decide_eq_true h0]; rfl
          have Hbt := Lib.hid hbt
          clear hbt
          go_wp2_with (go_at_call 20; refine (isNaN_any _ _).mono ?_; rintro e w' ⟨rfl, rfl⟩)
          go_round
          case rel => exact ⟨k + 1, by omega, by go_num, by rw [Hs.out, if_pos Hbt.out]⟩
          case measure => simp [intOf]; omega
        · obtain ⟨ad', e', hcell'⟩ := at_kf hr (bst l k) (by omega) (by omega)
          cases e'
          have hbt : better l (bst l k) k = decide (0 < ordB (at0 l k) (at0 l (bst l k).toNat)) := by unfold better; rw [hn, decide_eq_false h0]; rfl
          have Hbt := Lib.hid hbt
          clear hbt
          go_wp2_with (first | (go_at_call 20; refine (isNaN_any _ _).mono ?_; rintro e w' ⟨rfl, rfl⟩) | (go_at_call 19; refine (order_any _ _ _).mono ?_; rintro e w' ⟨rfl, rfl⟩))
          · go_round
            case rel => exact ⟨k + 1, by omega, by go_num, by rw [Hs.out, Hbt.out, decide_eq_true (by omega), if_pos rfl]⟩
            case measure => simp [intOf]; omega
          · go_round
            case rel => exact ⟨k + 1, by omega, by go_num, by rw [Hs.out, Hbt.out, decide_eq_false (by omega), if_neg (by decide)]⟩
            case measure => simp [intOf]; omega
      · have hbt : better l (bst l k) k = false := by unfold better; rw [hn]; rfl
        have Hbt := Lib.hid hbt
        clear hbt
        go_wp2_with (go_at_call 20; refine (isNaN_any _ _).mono ?_; rintro e w' ⟨rfl, rfl⟩)
        go_round
        case rel => exact ⟨k + 1, by omega, by go_num, by rw [Hs.out, Hbt.out, if_neg (by decide)]⟩
        case measure => simp [intOf]; omega
    · go_wp2
      go_ret
      obtain rfl : k = l.length := by omega
      exact ⟨rfl, rfl⟩
end Go.Proofs.Ytbbfngnfphmohaa.Fl
