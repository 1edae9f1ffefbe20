/- Helper: the law UpdProvisions; walked. No condition. -/
import Derived.Test.YticnmogeknlmeaaGreatDoorQ31
namespace Go.Proofs.YticnmogeknlmeaaGreatDoor.B
open Go.RowKit Go.Maps Go.Proofs.YticnmogeknlmeaaGreatDoorW.PrintWords Go.Proofs.YticnmogeknlmeaaGreatDoor.Later
set_option maxRecDepth 100000
set_option maxHeartbeats 4000000
theorem and_powC (m : Nat) (hm : m < 63) (c n : Int) (hc : c = (2 ^ m - 1 : Nat)) : Go.bits .and .i64 n c = n % (2 ^ m : Nat) := by
  have h1 : 2 ^ m ≤ 2 ^ 62 := Nat.pow_le_pow_right (by decide) (by omega)
  have hp : 0 < 2 ^ m := Nat.two_pow_pos m
  have h127 : (BitVec.ofInt 64 c).toNat = 2 ^ m - 1 := by
    rw [BitVec.toNat_ofInt, hc, show ((2 : Nat) ^ 64) = 18446744073709551616 from by decide]
    have : ((2 ^ m - 1 : Nat) : Int) % ((18446744073709551616 : Nat) : Int) = ((2 ^ m - 1 : Nat) : Int) := Int.emod_eq_of_lt (by omega) (by omega)
    rw [this]; rfl
  have key : (BitVec.ofInt 64 n &&& BitVec.ofInt 64 c).toNat = (n % ((2 ^ 64 : Nat) : Int)).toNat % 2 ^ m := by
    rw [BitVec.toNat_and, BitVec.toNat_ofInt, h127, Nat.and_two_pow_sub_one_eq_mod]
  show Go.IntKind.i64.wrap ((BitVec.ofInt 64 n &&& BitVec.ofInt 64 c).toNat : Nat) = _
  rw [key, Go.IntKind.wrap_i64]
  have h3 : ((((n % ((2 ^ 64 : Nat) : Int)).toNat % 2 ^ m : Nat)) : Int) = n % ((2 ^ m : Nat) : Int) := by
    rw [Int.natCast_emod, Int.toNat_of_nonneg (Int.emod_nonneg _ (by decide))]
    refine Int.emod_emod_of_dvd n ?_
    exact Int.natCast_dvd_natCast.2 (Nat.pow_dvd_pow 2 (by omega))
  rw [h3]
  have h4 := Int.emod_nonneg n (b := ((2 ^ m : Nat) : Int)) (by omega)
  have h5 := Int.emod_lt_of_pos n (b := ((2 ^ m : Nat) : Int)) (by omega)
  omega
theorem uprov_walk (q v : Int) (pg k : Nat) (hq : bits .and .i64 q 3 = (k : Int)) (hpg : pg = k + 1) (p4 : pg ≤ 4) (l : List UInt8) (s : List UInt8) (hs : s = l.take 400) (hl : l.length < 9223372036854775807) (w : World) : Calls Tryz.prog 6 #[.int .i64 q, .int .i64 v, .string (bs l)] w fun e w' => e = .returned (.bool true) ∧ Below w.heap.size w w' := by
  have hsz := bs_size l
  have hss := bs_size s
  have hsl : s.length ≤ 400 := by rw [hs, List.length_take]; omega
  have hp1 : 1 + (k : Int) = (pg : Int) := by omega
  go_enter Tryz.func6, Tryz.ntmps6
  go_wp2_with fail
  have hp2 : (k : Int) + 1 = (pg : Int) := by omega
  rw [hp2]
  clear hp2 hp1 hq
  have p1 : 1 ≤ pg := by omega
  clear hpg
  refine (mnew_any _ _ _ _ _ _).mono ?_
  rintro e w1 ⟨a, rfl, ha, hM, hB⟩
  have HB1 := Lib.hid hB
  have HM1 := Lib.hid hM
  clear hM hB
  have HN := Lib.hid (fun W => unew_ok a pg 64 (by omega) (by omega) (by decide) (by decide) W)
  have hs1 := HB1.out.size
  go_wp2_with fail
  refine (HN.out _).mono ?_
  rintro e w2 ⟨rfl, hU, hB⟩
  have HM2 := Lib.hid (HM1.out.below hB)
  have HU := Lib.hid hU
  have HB2 := Lib.hid (HB1.out.trans (hB.mono hs1))
  have HT := Lib.hid (TAt.new HU.out HM2.out (by omega) (by omega) (by omega))
  clear hB hU
  obtain ⟨u, hu⟩ : ∃ u, u = w1.heap.size := ⟨_, rfl⟩
  rw [← hu] at HT HU hs1 ⊢
  clear hu
  go_wp2_with fail
  refine (uboot_bare HU.out HM2.out rfl).mono ?_
  rintro e w3 ⟨rfl, hB⟩
  have HB3 := Lib.hid ((HB2.out.trans (hB.mono HB2.out.size)))
  have HT3 := Lib.hid (HT.out.below hB)
  clear hB HM1 HM2 HU HN
  have HB3 := Lib.hid (HB3.out.alloc HB3.out.size (.cells #[.int .i64 0, .bool false, .int .i64 0, .int .i64 0, .int .i64 0, .int .i64 0, .bool false, .bool false] 32))
  have HT3 := Lib.hid (HT3.out.below ((Below.refl _ _).alloc (Nat.le_refl _) (.cells #[.int .i64 0, .bool false, .int .i64 0, .int .i64 0, .int .i64 0, .int .i64 0, .bool false, .bool false] 32)))
  have hxl : decide ((400 : Int) < (l.length : Int)) = decide (400 < l.length) := by
    rcases Nat.lt_or_ge 400 l.length with h | h
    · rw [decide_eq_true h, decide_eq_true (by omega)]
    · rw [decide_eq_false (by omega), decide_eq_false (by omega)]
  have hx : (400 < l.length ∧ decide ((400 : Int) < (l.length : Int)) = true ∧ (bs l).extract 0 400 = bs s) ∨ (decide ((400 : Int) < (l.length : Int)) = false ∧ s = l) := by
    rcases Nat.lt_or_ge 400 l.length with hlen | hlen
    · exact .inl ⟨hlen, decide_eq_true (by omega), by rw [hs, bs_extract, List.drop_zero]⟩
    · exact .inr ⟨decide_eq_false (by omega), by rw [hs, List.take_of_length_le hlen]⟩
  clear hxl hs
  have Hbad := Lib.hid (fun (hv : ¬ (1 ≤ v ∧ v ≤ 1073741824)) W => prov_bad (w := W) u v hv s (by omega))
  have Hal := Lib.hid ha
  have HP1 := Lib.hid p1
  have HP4 := Lib.hid p4
  have hcase : (¬ (1 ≤ v ∧ v ≤ 1073741824) ∧ (v < 1 ∨ (¬ v < 1 ∧ 1073741824 < v))) ∨ (∃ V : Nat, v = (V : Int) ∧ (1 ≤ V ∧ V ≤ 1073741824) ∧ ¬ ((V : Int) < 1) ∧ ¬ ((1073741824 : Int) < (V : Int))) := by
    rcases Decidable.em (1 ≤ v ∧ v ≤ 1073741824) with h | h
    · exact .inr ⟨v.toNat, by omega, by omega, by omega, by omega⟩
    · exact .inl ⟨h, by omega⟩
  have Hlen := Lib.hid hsl
  clear p1 p4 ha hl hsl
  rcases hcase with ⟨hv, hcc⟩ | ⟨V, rfl, hv, hc0, hc1⟩
  · rcases hcc with hc | ⟨hc0, hc⟩
    all_goals
      rcases hx with ⟨hlen, hd, hx⟩ | ⟨hd, rfl⟩
    all_goals
      go_wp2_with fail
      refine (Hbad.out hv _).mono ?_
      rintro e w4 ⟨rfl, hB⟩
      have HB4 := Lib.hid (HB3.out.trans (hB.mono HB3.out.size))
      clear hB
      go_wp2_with fail
      refine (awake_any _).mono ?_
      rintro e w5 ⟨rfl, hB⟩
      have HB5 := Lib.hid (HB4.out.trans (hB.mono HB4.out.size))
      clear hB
      go_wp2_with fail
      go_ret
      exact ⟨rfl, HB5.out⟩
  · clear Hbad
    have p4 := HP4.out
    rcases Nat.lt_or_ge (64 * pg) s.length with hL | hL
    · have Hlong := Lib.hid (prov_long HT3.out V hv s (by have := Hlen.out; omega) hL)
      have hLd : pg * 64 < s.length := by omega
      rcases hx with ⟨hlen, hd, hx⟩ | ⟨hd, rfl⟩
      all_goals
        go_wp2_with fail
        refine Hlong.out.mono ?_
        rintro e w4 ⟨rfl, hB⟩
        have HB4 := Lib.hid (HB3.out.trans (hB.mono HB3.out.size))
        clear hB
        go_wp2_with fail
        refine (awake_any _).mono ?_
        rintro e w5 ⟨rfl, hB⟩
        have HB5 := Lib.hid (HB4.out.trans (hB.mono HB4.out.size))
        clear hB
        go_wp2_with fail
        all_goals (try (exfalso; omega))
        go_ret
        exact ⟨rfl, HB5.out⟩
    · have Hok := Lib.hid (prov_ok HT3.out HP1.out V hv s hL)
      have hLd : s.length ≤ pg * 64 := by omega
      have hfo := first_ok hv.1 hv.2 HP1.out (by have := HP4.out; omega) hL
      have Hboot := Lib.hid (fun W (h : UsAt W u a (first pg V ⟨V, s.length, shaL s⟩ s)) => (show Calls Tryz.prog 23 #[.pointer (some ⟨u, 0, none⟩)] W fun e w' => e = .returned (.tuple #[.agg #[.int .i64 0, .bool false, .int .i64 0, .int .i64 (V : Int), .int .i64 (V : Int), .int .i64 0, .bool true, .bool false], .int .i64 0]) ∧ Below W.heap.size W w' from boot_any h hfo.b))
      have Himg := Lib.hid (fun W (h : UsAt W u a (first pg V ⟨V, s.length, shaL s⟩ s)) => (show Calls Tryz.prog 20 #[.pointer (some ⟨u, 0, none⟩), .int .i64 0, .int .i64 (s.length : Int)] W fun e w' => e = .returned (.tuple #[.string (bs s), .int .i64 0]) ∧ Below W.heap.size W w' from uimg_any h false s rfl hL (by have := HP4.out; show pg ≤ _; omega)))
      have Hagain := Lib.hid (fun W (h : UsAt W u a (first pg V ⟨V, s.length, shaL s⟩ s)) => prov_twice h hfo V hv s hL)
      clear hfo hL hv
      have HV := Lib.hid hc0
      rcases hx with ⟨hlen, hd, hx⟩ | ⟨hd, rfl⟩
      all_goals
        go_wp2_with fail
        refine Hok.out.mono ?_
        rintro e w4 ⟨rfl, hU, hm⟩
        have H4 := Lib.hid hU
        have HB4 := Lib.hid (hm.over HB3.out Hal.out)
        clear hU hm
        go_wp2_with fail
        refine (awake_any _).mono ?_
        rintro e w5 ⟨rfl, hB⟩
        have HB5 := Lib.hid (HB4.out.trans (hB.mono HB4.out.size))
        have H5 := Lib.hid (H4.out.below hB)
        clear hB
        go_wp2_with fail
        all_goals (try (exfalso; omega))
        refine (Hboot.out _ H5.out).mono ?_
        rintro e w6 ⟨rfl, hB⟩
        have HB6 := Lib.hid (HB5.out.trans (hB.mono HB5.out.size))
        have H6 := Lib.hid (H5.out.below hB)
        have HB7 := Lib.hid (HB6.out.alloc HB6.out.size (.cells #[.int .i64 0, .bool false, .int .i64 0, .int .i64 (V : Int), .int .i64 (V : Int), .int .i64 0, .bool true, .bool false] 32))
        have hba : Below w6.heap.size w6 (w6.alloc (.cells #[.int .i64 0, .bool false, .int .i64 0, .int .i64 (V : Int), .int .i64 (V : Int), .int .i64 0, .bool true, .bool false] 32)) := (Below.refl _ _).alloc (Nat.le_refl _) _
        have H7 := Lib.hid (H6.out.below hba)
        have K7 := Lib.hid (Blk.new w6 #[.int .i64 0, .bool false, .int .i64 0, .int .i64 (V : Int), .int .i64 (V : Int), .int .i64 0, .bool true, .bool false] 32)
        clear hB hba
        go_wp2_with fail
        refine (Himg.out _ H7.out).mono ?_
        rintro e w8 ⟨rfl, hB⟩
        have HB8 := Lib.hid (HB7.out.trans (hB.mono HB7.out.size))
        have H8 := Lib.hid (H7.out.below hB)
        have c3 : w8.cell? ⟨w6.heap.size, 3, none⟩ = some (.int .i64 (V : Int)) := (K7.out.below hB).cell 3
        clear hB
        go_wp2_with fail
        refine (Hagain.out _ H8.out).mono ?_
        rintro e w9 ⟨rfl, hm⟩
        have HB9 := Lib.hid (hm.over HB8.out Hal.out)
        clear hm c3
        go_wp2_with fail
        go_ret
        exact ⟨rfl, HB9.out⟩
theorem uprov_any (q v : Int) (l : List UInt8) (hl : l.length < 9223372036854775807) (w : World) : Calls Tryz.prog 6 #[.int .i64 q, .int .i64 v, .string (bs l)] w fun e w' => e = .returned (.bool true) ∧ Below w.heap.size w w' := by
  have hq : bits .and .i64 q 3 = q % 4 := and_powC 2 (by decide) 3 q rfl
  exact uprov_walk q v ((q % 4).toNat + 1) (q % 4).toNat (by rw [hq]; omega) rfl (by omega) l (l.take 400) rfl hl w
end Go.Proofs.YticnmogeknlmeaaGreatDoor.B
