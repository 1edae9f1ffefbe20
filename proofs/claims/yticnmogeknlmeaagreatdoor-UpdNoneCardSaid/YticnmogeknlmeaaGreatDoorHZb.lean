/- Helper: the law UpdNone; walked. No condition. -/
import Derived.Test.YticnmogeknlmeaaGreatDoorQ31
namespace Go.Proofs.YticnmogeknlmeaaGreatDoor.B
open Go.RowKit Go.Maps Go.Proofs.YticnmogeknlmeaaGreatDoorW.PrintWords Go.Proofs.YticnmogeknlmeaaGreatDoor.Later
set_option maxRecDepth 100000
set_option maxHeartbeats 40000000
theorem and_pow (m : Nat) (hm : m < 63) (c n : Int) (hc : c = (2 ^ m - 1 : Nat)) : Go.bits .and .i64 n c = n % (2 ^ m : Nat) := by
  have h1 : 2 ^ m ≤ 2 ^ 62 := Nat.pow_le_pow_right (by decide) (by omega)
  have hp : 0 < 2 ^ m := Nat.two_pow_pos m
  have h127 : (BitVec.ofInt 64 c).toNat = 2 ^ m - 1 := by
    rw [BitVec.toNat_ofInt, hc, show ((2 : Nat) ^ 64) = 18446744073709551616 from by decide]
    have : ((2 ^ m - 1 : Nat) : Int) % ((18446744073709551616 : Nat) : Int) = ((2 ^ m - 1 : Nat) : Int) := Int.emod_eq_of_lt (by omega) (by omega)
    rw [this]; rfl
  have key : (BitVec.ofInt 64 n &&& BitVec.ofInt 64 c).toNat = (n % ((2 ^ 64 : Nat) : Int)).toNat % 2 ^ m := by
    rw [BitVec.toNat_and, BitVec.toNat_ofInt, h127, Nat.and_two_pow_sub_one_eq_mod]
  show Go.IntKind.i64.wrap ((BitVec.ofInt 64 n &&& BitVec.ofInt 64 c).toNat : Nat) = _
  rw [key, Go.IntKind.wrap_i64]
  have h3 : ((((n % ((2 ^ 64 : Nat) : Int)).toNat % 2 ^ m : Nat)) : Int) = n % ((2 ^ m : Nat) : Int) := by
    rw [Int.natCast_emod, Int.toNat_of_nonneg (Int.emod_nonneg _ (by decide))]
    refine Int.emod_emod_of_dvd n ?_
    exact Int.natCast_dvd_natCast.2 (Nat.pow_dvd_pow 2 (by omega))
  rw [h3]
  have h4 := Int.emod_nonneg n (b := ((2 ^ m : Nat) : Int)) (by omega)
  have h5 := Int.emod_lt_of_pos n (b := ((2 ^ m : Nat) : Int)) (by omega)
  omega
theorem nil_prov0 (w : World) : Calls Tryz.prog 24 #[.pointer none, .int .i64 1, .string { data := #[] }] w fun e w' => e = .returned (.int .i64 1) ∧ Below w.heap.size w w' := prov_nil 1 [] (by decide)
/-- How many pages, as the law wants it. -/
theorem want_cases (n : Nat) (_hn : n ≤ 4095) : (((n : Int) < 4 ∧ min (max (((n : Int) - 4).tdiv 2) 0) 1024 = 0) ∨ (4 ≤ (n : Int) ∧ ((n : Int) - 4) / 2 ≤ 1024 ∧ min (max (((n : Int) - 4).tdiv 2) 0) 1024 = ((n : Int) - 4) / 2)) ∨ (4 ≤ (n : Int) ∧ (1024 : Int) < ((n : Int) - 4) / 2 ∧ min (max (((n : Int) - 4).tdiv 2) 0) 1024 = 1024) := by
  rcases Nat.lt_or_ge n 4 with h | h
  · left; left
    refine ⟨by omega, ?_⟩
    rcases (show n = 0 ∨ n = 1 ∨ n = 2 ∨ n = 3 by omega) with rfl | rfl | rfl | rfl <;> decide
  · rw [Int.tdiv_eq_ediv_of_nonneg (by omega)]
    rcases Decidable.em ((1024 : Int) < ((n : Int) - 4) / 2) with k | k
    · right
      exact ⟨by omega, k, by omega⟩
    · left; right
      exact ⟨by omega, by omega, by omega⟩
theorem unone_ok (p s q : Int) (h1 : 1 ≤ p) (h2 : p ≤ 1024) (h3 : 64 ≤ s) (h4 : s ≤ 256) (w : World) : Calls Tryz.prog 7 #[.int .i64 p, .int .i64 s, .int .i64 q] w fun e w' => e = .returned (.bool true) ∧ Below w.heap.size w w' := by
  have hq : bits .and .i64 q 4095 = q % 4096 := and_pow 12 (by decide) 4095 q rfl
  obtain ⟨n, hn⟩ : ∃ n : Nat, n = (q % 4096).toNat := ⟨_, rfl⟩
  have hqn : bits .and .i64 q 4095 = (n : Int) := by rw [hq]; omega
  have hn4 : n ≤ 4095 := by omega
  clear hq hn
  have Hpg := Lib.hid (fun W => pages_any n hn4 0 0 0 W)
  have d1 : decide ((1 : Int) ≤ p) = true := decide_eq_true h1
  have d2 : decide (p ≤ 1024) = true := decide_eq_true h2
  have d3 : decide ((64 : Int) ≤ s) = true := decide_eq_true h3
  have d4 : decide (s ≤ 256) = true := decide_eq_true h4
  have HN := Lib.hid (fun a W => unew_ok a p s h1 h2 h3 h4 W)
  clear h1 h2 h3 h4
  have Hqn := Lib.hid hqn
  have Hn4 := Lib.hid hn4
  rcases want_cases n hn4 with (E | E) | E
  all_goals
    have HE := Lib.hid E
    clear E hqn hn4
    go_enter Tryz.func7, Tryz.ntmps7
    go_wp2_with fail
    refine (mnew_any _ _ _ _ _ _).mono ?_
    rintro e w1 ⟨a, rfl, ha, hM, hB⟩
    have HB1 := Lib.hid hB
    clear hM hB
    go_wp2_with fail
    refine (HN.out a _).mono ?_
    rintro e w2 ⟨rfl, _, hB⟩
    have HB2 := Lib.hid (HB1.out.trans (hB.mono HB1.out.size))
    obtain ⟨u, hu⟩ : ∃ u, u = w1.heap.size := ⟨_, rfl⟩
    rw [← hu]
    clear hB hu
    go_wp2_with fail
    refine (unew_nil _ _ _).mono ?_
    rintro e w3 ⟨rfl, rfl⟩
    go_wp2_with fail
    refine (nil_boot _).mono ?_
    rintro e w4 ⟨rfl, hB⟩
    have Hw4 := Lib.hid (HB2.out.trans (hB.mono HB2.out.size))
    clear hB
    go_wp2_with fail
    have HA4 := Lib.hid (Hw4.out.alloc Hw4.out.size (.cells #[.int .i64 0, .bool false, .int .i64 0, .int .i64 0, .int .i64 0, .int .i64 0, .bool false, .bool false] 32))
    refine (nil_prog _).mono ?_
    rintro e w5 ⟨rfl, hB⟩
    have Hw5 := Lib.hid (HA4.out.trans (hB.mono HA4.out.size))
    clear hB
    go_wp2_with fail
    have HA5 := Lib.hid (Hw5.out.alloc Hw5.out.size (.cells #[.int .i64 0, .int .i64 0, .string { data := #[] }, .int .i64 0] 71))
    refine (nil_img _).mono ?_
    rintro e w6 ⟨rfl, rfl⟩
    go_wp2_with fail
    refine (nil_man _).mono ?_
    rintro e w7 ⟨rfl, hB⟩
    have Hw7 := Lib.hid (HA5.out.trans (hB.mono HA5.out.size))
    clear hB
    go_wp2_with fail
    have HA7 := Lib.hid (Hw7.out.alloc Hw7.out.size (.cells #[.int .i64 0, .int .i64 0, .string { data := #[] }] 34))
    refine (nil_start _).mono ?_
    rintro e w8 ⟨rfl, hB⟩
    have Hw8 := Lib.hid (HA7.out.trans (hB.mono HA7.out.size))
    clear hB
    have hqn := Hqn.out
    have hn4 := Hn4.out
    first
      | (obtain ⟨e1, e2, hm⟩ := HE.out; rw [hm] at Hpg; clear hm)
      | (obtain ⟨e1, hm⟩ := HE.out; rw [hm] at Hpg; clear hm)
    go_wp2_with fail
    all_goals (try (exfalso; omega))
    have HBo := Lib.hid (Hw8.out.alloc Hw8.out.size (.cells #[.int .i64 0, .int .i64 0] 54))
    clear Hw8 HA7 Hw7 HA5 Hw5 HA4 Hw4 hqn
    have HN4 := Lib.hid hn4
    clear hn4
    refine (awake_any _).mono ?_
    rintro e ww ⟨rfl, hB⟩
    have HBn := Lib.hid (HBo.out.trans (hB.mono HBo.out.size))
    clear hB HBo
    have HBo := HBn
    clear HBn
    go_wp2_with fail
    refine (nil_prov0 _).mono ?_
    rintro e ww ⟨rfl, hB⟩
    have HBn := Lib.hid (HBo.out.trans (hB.mono HBo.out.size))
    clear hB HBo
    have HBo := HBn
    clear HBn
    go_wp2_with fail
    refine (nil_inst _ []).mono ?_
    rintro e ww ⟨rfl, hB⟩
    have HBn := Lib.hid (HBo.out.trans (hB.mono HBo.out.size))
    clear hB HBo
    have HBo := HBn
    clear HBn
    go_wp2_with fail
    refine (nil_chunk _ [120]).mono ?_
    rintro e ww ⟨rfl, hB⟩
    have HBn := Lib.hid (HBo.out.trans (hB.mono HBo.out.size))
    clear hB HBo
    have HBo := HBn
    clear HBn
    go_wp2_with fail
    refine (nil_fin _).mono ?_
    rintro e ww ⟨rfl, hB⟩
    have HBn := Lib.hid (HBo.out.trans (hB.mono HBo.out.size))
    clear hB HBo
    have HBo := HBn
    clear HBn
    go_wp2_with fail
    refine (nil_switch _).mono ?_
    rintro e ww ⟨rfl, hB⟩
    have HBn := Lib.hid (HBo.out.trans (hB.mono HBo.out.size))
    clear hB HBo
    have HBo := HBn
    clear HBn
    go_wp2_with fail
    refine (nil_confirm _).mono ?_
    rintro e ww ⟨rfl, hB⟩
    have HBn := Lib.hid (HBo.out.trans (hB.mono HBo.out.size))
    clear hB HBo
    have HBo := HBn
    clear HBn
    go_wp2_with fail
    have hn4 := HN4.out
    refine (Hpg.out _).mono ?_
    rintro e ww ⟨rfl, hB⟩
    have HBn := Lib.hid (HBo.out.trans (hB.mono HBo.out.size))
    clear hB HBo
    have HBo := HBn
    clear HBn
    go_wp2_with fail
    go_ret
    exact ⟨rfl, HBo.out⟩

theorem unone_bad (p s q : Int) (h : ¬ (1 ≤ p ∧ p ≤ 1024 ∧ 64 ≤ s ∧ s ≤ 256)) (w : World) : Calls Tryz.prog 7 #[.int .i64 p, .int .i64 s, .int .i64 q] w fun e w' => e = .returned (.bool true) ∧ Below w.heap.size w w' := by
  have hq : bits .and .i64 q 4095 = q % 4096 := and_pow 12 (by decide) 4095 q rfl
  obtain ⟨n, hn⟩ : ∃ n : Nat, n = (q % 4096).toNat := ⟨_, rfl⟩
  have hqn : bits .and .i64 q 4095 = (n : Int) := by rw [hq]; omega
  have hn4 : n ≤ 4095 := by omega
  clear hq hn
  have Hpg := Lib.hid (fun W => pages_any n hn4 0 0 0 W)
  have hc : decide ((1 : Int) ≤ p) = false ∨ (decide ((1 : Int) ≤ p) = true ∧ (decide (p ≤ 1024) = false ∨ (decide (p ≤ 1024) = true ∧ (decide ((64 : Int) ≤ s) = false ∨ (decide ((64 : Int) ≤ s) = true ∧ decide (s ≤ 256) = false))))) := by
    rcases Decidable.em ((1 : Int) ≤ p) with a | a
    · refine .inr ⟨decide_eq_true a, ?_⟩
      rcases Decidable.em (p ≤ 1024) with b | b
      · refine .inr ⟨decide_eq_true b, ?_⟩
        rcases Decidable.em ((64 : Int) ≤ s) with c | c
        · refine .inr ⟨decide_eq_true c, decide_eq_false (fun d => h ⟨a, b, c, d⟩)⟩
        · exact .inl (decide_eq_false c)
      · exact .inl (decide_eq_false b)
    · exact .inl (decide_eq_false a)
  have HN := Lib.hid (fun a W => unew_bad a p s h W)
  clear h
  have Hqn := Lib.hid hqn
  have Hn4 := Lib.hid hn4
  rcases want_cases n hn4 with (E | E) | E
  all_goals
    have HE := Lib.hid E
    clear E hqn hn4
    rcases hc with d1 | ⟨d1, d2 | ⟨d2, d3 | ⟨d3, d4⟩⟩⟩
  all_goals
    go_enter Tryz.func7, Tryz.ntmps7
    go_wp2_with fail
    refine (mnew_any _ _ _ _ _ _).mono ?_
    rintro e w1 ⟨a, rfl, ha, hM, hB⟩
    have HB1 := Lib.hid hB
    clear hM hB
    go_wp2_with fail
    refine (HN.out a _).mono ?_
    rintro e w2 ⟨rfl, rfl⟩
    have HB2 := HB1
    go_wp2_with fail
    refine (unew_nil _ _ _).mono ?_
    rintro e w3 ⟨rfl, rfl⟩
    go_wp2_with fail
    refine (nil_boot _).mono ?_
    rintro e w4 ⟨rfl, hB⟩
    have Hw4 := Lib.hid (HB2.out.trans (hB.mono HB2.out.size))
    clear hB
    go_wp2_with fail
    have HA4 := Lib.hid (Hw4.out.alloc Hw4.out.size (.cells #[.int .i64 0, .bool false, .int .i64 0, .int .i64 0, .int .i64 0, .int .i64 0, .bool false, .bool false] 32))
    refine (nil_prog _).mono ?_
    rintro e w5 ⟨rfl, hB⟩
    have Hw5 := Lib.hid (HA4.out.trans (hB.mono HA4.out.size))
    clear hB
    go_wp2_with fail
    have HA5 := Lib.hid (Hw5.out.alloc Hw5.out.size (.cells #[.int .i64 0, .int .i64 0, .string { data := #[] }, .int .i64 0] 71))
    refine (nil_img _).mono ?_
    rintro e w6 ⟨rfl, rfl⟩
    go_wp2_with fail
    refine (nil_man _).mono ?_
    rintro e w7 ⟨rfl, hB⟩
    have Hw7 := Lib.hid (HA5.out.trans (hB.mono HA5.out.size))
    clear hB
    go_wp2_with fail
    have HA7 := Lib.hid (Hw7.out.alloc Hw7.out.size (.cells #[.int .i64 0, .int .i64 0, .string { data := #[] }] 34))
    refine (nil_start _).mono ?_
    rintro e w8 ⟨rfl, hB⟩
    have Hw8 := Lib.hid (HA7.out.trans (hB.mono HA7.out.size))
    clear hB
    have hqn := Hqn.out
    have hn4 := Hn4.out
    first
      | (obtain ⟨e1, e2, hm⟩ := HE.out; rw [hm] at Hpg; clear hm)
      | (obtain ⟨e1, hm⟩ := HE.out; rw [hm] at Hpg; clear hm)
    go_wp2_with fail
    all_goals (try (exfalso; omega))
    have HBo := Lib.hid (Hw8.out.alloc Hw8.out.size (.cells #[.int .i64 0, .int .i64 0] 54))
    clear Hw8 HA7 Hw7 HA5 Hw5 HA4 Hw4 hqn
    have HN4 := Lib.hid hn4
    clear hn4
    refine (awake_any _).mono ?_
    rintro e ww ⟨rfl, hB⟩
    have HBn := Lib.hid (HBo.out.trans (hB.mono HBo.out.size))
    clear hB HBo
    have HBo := HBn
    clear HBn
    go_wp2_with fail
    refine (nil_prov0 _).mono ?_
    rintro e ww ⟨rfl, hB⟩
    have HBn := Lib.hid (HBo.out.trans (hB.mono HBo.out.size))
    clear hB HBo
    have HBo := HBn
    clear HBn
    go_wp2_with fail
    refine (nil_inst _ []).mono ?_
    rintro e ww ⟨rfl, hB⟩
    have HBn := Lib.hid (HBo.out.trans (hB.mono HBo.out.size))
    clear hB HBo
    have HBo := HBn
    clear HBn
    go_wp2_with fail
    refine (nil_chunk _ [120]).mono ?_
    rintro e ww ⟨rfl, hB⟩
    have HBn := Lib.hid (HBo.out.trans (hB.mono HBo.out.size))
    clear hB HBo
    have HBo := HBn
    clear HBn
    go_wp2_with fail
    refine (nil_fin _).mono ?_
    rintro e ww ⟨rfl, hB⟩
    have HBn := Lib.hid (HBo.out.trans (hB.mono HBo.out.size))
    clear hB HBo
    have HBo := HBn
    clear HBn
    go_wp2_with fail
    refine (nil_switch _).mono ?_
    rintro e ww ⟨rfl, hB⟩
    have HBn := Lib.hid (HBo.out.trans (hB.mono HBo.out.size))
    clear hB HBo
    have HBo := HBn
    clear HBn
    go_wp2_with fail
    refine (nil_confirm _).mono ?_
    rintro e ww ⟨rfl, hB⟩
    have HBn := Lib.hid (HBo.out.trans (hB.mono HBo.out.size))
    clear hB HBo
    have HBo := HBn
    clear HBn
    go_wp2_with fail
    have hn4 := HN4.out
    refine (Hpg.out _).mono ?_
    rintro e ww ⟨rfl, hB⟩
    have HBn := Lib.hid (HBo.out.trans (hB.mono HBo.out.size))
    clear hB HBo
    have HBo := HBn
    clear HBn
    go_wp2_with fail
    go_ret
    exact ⟨rfl, HBo.out⟩

theorem unone_any (p s q : Int) (w : World) : Calls Tryz.prog 7 #[.int .i64 p, .int .i64 s, .int .i64 q] w fun e w' => e = .returned (.bool true) ∧ Below w.heap.size w w' := by
  by_cases h : 1 ≤ p ∧ p ≤ 1024 ∧ 64 ≤ s ∧ s ≤ 256
  · exact unone_ok p s q h.1 h.2.1 h.2.2.1 h.2.2.2 w
  · exact unone_bad p s q h w
end Go.Proofs.YticnmogeknlmeaaGreatDoor.B
