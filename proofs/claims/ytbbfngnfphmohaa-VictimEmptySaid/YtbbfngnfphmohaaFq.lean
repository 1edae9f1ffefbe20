/- Helper: the statement that fewer live pages are worth more, walked. No condition. -/
import Derived.Test.YtbbfngnfphmohaaFw
import Derived.Test.YtbbfngnfphmohaaLater
import Derived.Deep.DeepCutAuto
import Derived.Laws.Bits128
namespace Go.Proofs.Ytbbfngnfphmohaa.Fl
open Go.RowKit Go.Proofs.Ytbbfngnfphmohaa.Later
theorem and_pow (m : Nat) (hm : m < 63) (c n : Int) (hc : c = (2 ^ m - 1 : Nat)) : Go.bits .and .i64 n c = n % (2 ^ m : Nat) := by
  have h1 : 2 ^ m ≤ 2 ^ 62 := Nat.pow_le_pow_right (by decide) (by omega)
  have hp : 0 < 2 ^ m := Nat.two_pow_pos m
  have h127 : (BitVec.ofInt 64 c).toNat = 2 ^ m - 1 := by
    rw [BitVec.toNat_ofInt, hc, show ((2 : Nat) ^ 64) = 18446744073709551616 from by decide]
    have : ((2 ^ m - 1 : Nat) : Int) % ((18446744073709551616 : Nat) : Int) = ((2 ^ m - 1 : Nat) : Int) := Int.emod_eq_of_lt (by omega) (by omega)
    rw [this]; rfl
  have key : (BitVec.ofInt 64 n &&& BitVec.ofInt 64 c).toNat = (n % ((2 ^ 64 : Nat) : Int)).toNat % 2 ^ m := by
    rw [BitVec.toNat_and, BitVec.toNat_ofInt, h127, Nat.and_two_pow_sub_one_eq_mod]
  show Go.IntKind.i64.wrap ((BitVec.ofInt 64 n &&& BitVec.ofInt 64 c).toNat : Nat) = _
  rw [key, Go.IntKind.wrap_i64]
  have h3 : ((((n % ((2 ^ 64 : Nat) : Int)).toNat % 2 ^ m : Nat)) : Int) = n % ((2 ^ m : Nat) : Int) := by
    rw [Int.natCast_emod, Int.toNat_of_nonneg (Int.emod_nonneg _ (by decide))]
    refine Int.emod_emod_of_dvd n ?_
    exact Int.natCast_dvd_natCast.2 (Nat.pow_dvd_pow 2 (by omega))
  rw [h3]
  have h4 := Int.emod_nonneg n (b := ((2 ^ m : Nat) : Int)) (by omega)
  have h5 := Int.emod_lt_of_pos n (b := ((2 ^ m : Nat) : Int)) (by omega)
  omega
theorem and_in (m : Nat) (hm : m < 63) (c n : Int) (hc : c = (2 ^ m - 1 : Nat)) : 0 ≤ Go.bits .and .i64 n c ∧ Go.bits .and .i64 n c ≤ c := by
  rw [and_pow m hm c n hc]
  have hp : 0 < 2 ^ m := Nat.two_pow_pos m
  have h4 := Int.emod_nonneg n (b := ((2 ^ m : Nat) : Int)) (by omega)
  have h5 := Int.emod_lt_of_pos n (b := ((2 ^ m : Nat) : Int)) (by omega)
  omega
theorem place_in (a : Int) (n : Nat) (h1 : 1 ≤ n) (h2 : n ≤ 32) : ∃ x : Nat, x ≤ n ∧ (wrap64 (wrap64 (a.tmod ((n : Int) + 1) + n) + 1)).tmod ((n : Int) + 1) = x := by
  have l1 := Int.tmod_lt_of_pos a (show 0 < (n : Int) + 1 by omega)
  have l2 := Int.lt_tmod_of_pos a (show 0 < (n : Int) + 1 by omega)
  generalize a.tmod ((n : Int) + 1) = z at *
  have e1 : wrap64 (wrap64 (z + n) + 1) = z + n + 1 := by unfold wrap64; omega
  rw [e1, Int.tmod_eq_emod_of_nonneg (by omega)]
  have m1 := Int.emod_nonneg (z + n + 1) (show (n : Int) + 1 ≠ 0 by omega)
  have m2 := Int.emod_lt_of_pos (z + n + 1) (show 0 < (n : Int) + 1 by omega)
  exact ⟨((z + n + 1) % ((n : Int) + 1)).toNat, by omega, by omega⟩
theorem worth_some {n x t : Nat} (hn : n < 33) (h1 : 1 ≤ n) (ht : t ≤ 65535) (hx : x ≤ n) : ∃ v, ofO x n t = some v := by
  by_cases h0 : x = 0
  · subst h0; exact ⟨_, worth_zero hn h1 t ht⟩
  · by_cases he : x = n
    · subst he; exact ⟨_, worth_all hn h1 t ht⟩
    · obtain ⟨_, _, _, r, _, _, _, _, hr, _⟩ := worth_mid hn (show x < n by omega) (by omega) t ht
      exact ⟨r, hr⟩
set_option maxRecDepth 100000 in
set_option maxHeartbeats 1600000 in
theorem ScoreBetter_any (a b more : Int) (w : World) (_ha : (Lit.int .i64 a).wf = true) (_hb : (Lit.int .i64 b).wf = true) (_hm : (Lit.int .i64 more).wf = true) :
    Calls Try.prog 6 #[.int .i64 a, .int .i64 b, .int .i64 more] w fun e w' => e = .returned (.bool true) ∧ Below w.heap.size w w' := by
  obtain ⟨j0, j1⟩ := and_in 5 (by decide) 31 more (by decide)
  go_enter Try.func6, Try.ntmps6
  go_upto_region 2 with fail
  go_cut [7, 8, 9, 10] (fun n g x y wx => ∃ (n' x' y' : Nat) (g' : Int), n = .int .i64 n' ∧ 1 ≤ n' ∧ n' ≤ 32 ∧ g = .int .i64 g' ∧ x = .int .i64 x' ∧ x' ≤ n' ∧ y = .int .i64 y' ∧ y' ≤ n' ∧ Below w.heap.size w wx)
  case first =>
    go_quiet (fail)
    go_wp2
    go_meet
    obtain ⟨n', hn'⟩ : ∃ n' : Nat, 1 + bits BinOp.and IntKind.i64 more 31 = n' := ⟨(1 + bits BinOp.and IntKind.i64 more 31).toNat, by omega⟩
    obtain ⟨x', x1, x2⟩ := place_in a n' (by omega) (by omega)
    obtain ⟨y', y1, y2⟩ := place_in b n' (by omega) (by omega)
    rw [hn']
    exact ⟨n', x', y', _, rfl, by omega, by omega, rfl, by rw [x2], x1, by rw [y2], y1, below_drewN (Below.refl _ _) _⟩
  case rest =>
    obtain ⟨n, x, y, g, rfl, n1, n2, rfl, rfl, hx, rfl, hy, hB⟩ := hcut
    obtain ⟨t0, t1⟩ := and_in 16 (by decide) 65535 g (by decide)
    obtain ⟨t, ht⟩ : ∃ t : Nat, bits BinOp.and IntKind.i64 g 65535 = t := ⟨(bits BinOp.and IntKind.i64 g 65535).toNat, by omega⟩
    have ht2 : t ≤ 65535 := by omega
    obtain ⟨p, hp⟩ := worth_some (show n < 33 by omega) n1 ht2 hx
    obtain ⟨q, hq⟩ := worth_some (show n < 33 by omega) n1 ht2 hy
    have HP := Lib.hid hp
    have HQ := Lib.hid hq
    have HB := Lib.hid hB
    have HT := Lib.hid ht
    clear hp hq hB ht t0 t1
    go_wp2_with fail
    rw [HT.out]
    refine (of_any _ _ _ _).mono ?_
    rintro e w1 ⟨r, rfl, hr, hb1⟩
    obtain rfl : r = p := by rw [HP.out] at hr; exact hr
    clear hr
    go_wp2_with fail
    rw [HT.out]
    refine (of_any _ _ _ _).mono ?_
    rintro e w2 ⟨r', rfl, hr, hb2⟩
    obtain rfl : r' = q := by rw [HQ.out] at hr; exact hr
    clear hr
    have HB2 := Lib.hid (HB.out.trans ((hb1.trans (hb2.mono hb1.size)).mono HB.out.size))
    go_wp2_with fail
    refine (awake_any _).mono ?_
    rintro e w3 ⟨rfl, hb3⟩
    have HB3 := Lib.hid (HB2.out.trans (hb3.mono HB2.out.size))
    clear hb1 hb2 hb3 HB HB2
    rcases Nat.lt_trichotomy x y with hlt | heq | hgt
    · have hord : 0 < ordB r r' := by
        obtain ⟨p', q', e1, e2, e3⟩ := better_all (show n < 33 by omega) n1 ht2 hlt hy
        rw [HP.out] at e1
        rw [HQ.out] at e2
        cases e1
        cases e2
        exact e3
      have h1 : decide (y ≤ x) = false := decide_eq_false (by omega)
      have h2 : (((x : Int)) == (y : Int)) = false := beq_eq_false_iff_ne.2 (by omega)
      have h3 : (((x : Int)) != (y : Int)) = true := bne_iff_ne.2 (by omega)
      have h4 : decide (0 < ordB r r') = true := decide_eq_true hord
      go_wp2_with (go_at_call 19; refine (order_any _ _ _).mono ?_; rintro e w' ⟨rfl, rfl⟩)
      go_ret
      exact ⟨rfl, HB3.out⟩
    · subst heq
      obtain rfl : r = r' := by have e1 := HP.out; rw [HQ.out] at e1; exact (Option.some.inj e1).symm
      have ho := Lib.hid (ord_same r)
      have h1 : decide (x ≤ x) = true := decide_eq_true (by omega)
      have h2 : (((x : Int)) == (x : Int)) = true := by simp
      have h3 : (((x : Int)) != (x : Int)) = false := by simp
      go_wp2_with (go_at_call 19; refine (order_any _ _ _).mono ?_; rintro e w' ⟨rfl, rfl⟩; rw [ho.out])
      go_ret
      exact ⟨rfl, HB3.out⟩
    · have h1 : decide (y ≤ x) = true := decide_eq_true (by omega)
      have h2 : (((x : Int)) == (y : Int)) = false := beq_eq_false_iff_ne.2 (by omega)
      have h3 : (((x : Int)) != (y : Int)) = true := bne_iff_ne.2 (by omega)
      go_wp2_with (go_at_call 19; refine (order_any _ _ _).mono ?_; rintro e w' ⟨rfl, rfl⟩)
      go_ret
      exact ⟨rfl, HB3.out⟩
end Go.Proofs.Ytbbfngnfphmohaa.Fl
