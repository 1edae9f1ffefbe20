/- Helper: is there a pair that may not be?; walked. No condition. -/
import Derived.Test.YteilmbhnbmmcjaaKg
namespace Go.Proofs.Yteilmbhnbmmcjaa.B
open Go.RowKit Go.Proofs.YteilmbhnbmmcjaaW.PrintWords Go.Proofs.Yteilmbhnbmmcjaa.Later
set_option maxRecDepth 100000
set_option maxHeartbeats 1600000
def Fine (x : Pr) : Prop := x.k.length ≤ 9223372036854775807 ∧ x.v.length ≤ 9223372036854775807
theorem ch1_any (x : Pr) (hx : Fine x) (w : World) : Calls Try.prog 85 #[.agg #[.string (bs x.k), .string (bs x.v)]] w fun e w' => e = .returned (.bool (!goodK x.k x.v)) ∧ Below w.heap.size w w' := by
  go_enter Try.func85, Try.ntmps85
  go_wp2_with fail
  refine (good_any x.k x.v hx.1 hx.2 _).mono ?_
  rintro e w1 ⟨rfl, hb⟩
  have hA : Below w.heap.size w (w.alloc (.cells #[.string (bs x.k), .string (bs x.v)] 63)) := (Below.refl _ _).alloc (Nat.le_refl _) _
  have HB := Lib.hid (hA.trans (hb.mono hA.size))
  clear hb
  go_wp2
  go_ret
  exact ⟨rfl, HB.out⟩
def IdxRel (l : List Pr) (w : World) (i : Value) (wr : World) : Prop := ∃ k : Nat, k ≤ l.length ∧ i = .int .i64 k ∧ (∀ n, n < k → goodK (prA l n).k (prA l n).v = true) ∧ Below w.heap.size w wr
theorem index_any (l : List Pr) (hl : ∀ x ∈ l, Fine x) (hn : l.length ≤ 1000000) (A : Option Addr) (c : Nat) (w : World) (hC : Kd.C prK w A l.length l) :
    Calls Try.prog 103 #[.slice A l.length c, .func (.func 85) #[] #[]] w fun e w' => (∃ z : Int, e = .returned (.int .i64 z) ∧ decide (0 ≤ z) = l.any (fun x => !goodK x.k x.v)) ∧ Below w.heap.size w w' := by
  have HC := Lib.hid hC
  have HL := Lib.hid hl
  clear hC hl
  go_enter Try.func103, Try.ntmps103
  go_wp2
  go_loopw [8] (fun i wr => IdxRel l w i wr) (fun i _ => l.length - (intOf i).toNat)
  case atStart => exact ⟨0, by omega, rfl, fun n h => by omega, Below.refl _ _⟩
  case round =>
    obtain ⟨k, hk, rfl, h1, hB⟩ := hrel
    have H1 := Lib.hid h1
    have HB := Lib.hid hB
    clear h1 hB
    by_cases hlt : k < l.length
    · obtain ⟨ad, e, d0, d1⟩ := at_pr (Kd.C_below HC.out HB.out) (k : Int) (by omega) (by omega)
      cases e
      rw [Int.toNat_natCast] at d0 d1
      have hm : prA l k ∈ l := by rw [prA_get _ _ hlt]; exact List.getElem_mem _
      have hf := ch1_any (prA l k) (HL.out _ hm)
      obtain ⟨b, hb⟩ : ∃ b, b = goodK (prA l k).k (prA l k).v := ⟨_, rfl⟩
      rw [← hb] at hf
      have Hb := Lib.hid hb
      have Hm := Lib.hid hm
      clear hb hm
      go_wp2_with fail
      refine (hf _).mono ?_
      rintro e w2 ⟨rfl, hb2⟩
      have HB2 := Lib.hid (HB.out.trans (hb2.mono HB.out.size))
      clear hb2
      cases b with
      | true =>
        go_wp2
        go_roundw
        case rel => exact ⟨k + 1, by omega, by go_num, fun n hn => by
          by_cases e : n = k
          · subst e; exact Hb.out.symm
          · exact H1.out n (by omega), HB2.out⟩
        case measure => simp [intOf]; omega
      | false =>
        go_wp2
        go_ret
        refine ⟨⟨_, rfl, ?_⟩, HB2.out⟩
        rw [List.any_eq_true.2 ⟨_, Hm.out, by rw [← Hb.out]; rfl⟩]
        simp
    · obtain rfl : k = l.length := by omega
      go_wp2
      go_ret
      refine ⟨⟨_, rfl, ?_⟩, HB.out⟩
      symm
      rw [show decide ((0 : Int) ≤ -1) = false from rfl, List.any_eq_false]
      intro x hx
      obtain ⟨n, hn1, rfl⟩ := List.getElem_of_mem hx
      rw [← prA_get l n hn1, H1.out n hn1]
      simp
theorem contains_any (l : List Pr) (hl : ∀ x ∈ l, Fine x) (hn : l.length ≤ 1000000) (A : Option Addr) (c : Nat) (w : World) (hC : Kd.C prK w A l.length l) :
    Calls Try.prog 84 #[.slice A l.length c, .func (.func 85) #[] #[]] w fun e w' => e = .returned (.bool (l.any (fun x => !goodK x.k x.v))) ∧ Below w.heap.size w w' := by
  have hi := index_any l hl hn A c w hC
  go_enter Try.func84, Try.ntmps84
  go_wp2_with fail
  refine hi.mono ?_
  rintro e w1 ⟨⟨z, rfl, hz⟩, hb⟩
  go_wp2
  go_ret
  exact ⟨by rw [← hz]; rfl, hb⟩
end Go.Proofs.Yteilmbhnbmmcjaa.B
