/- Helper: the statement that a note which the disk does not take is not noted; walked. No condition. -/
import Derived.Test.YteilmbhnbmmcjaaLt
import Derived.Test.YteilmbhnbmmcjaaLaterCall
import Derived.Outline
namespace Go.Proofs.Yteilmbhnbmmcjaa.B
open Go.RowKit Go.Proofs.YteilmbhnbmmcjaaW.PrintWords Go.Proofs.Yteilmbhnbmmcjaa.Later
set_option maxRecDepth 100000
set_option maxHeartbeats 1600000
def WholeRel (l : List Ad) (S a g : Nat) (w : World) (n c : Value) (wr : World) : Prop :=
  ∃ (i m : Nat) (N : List Nt), i ≤ l.length ∧ i ≤ 30 ∧ c = .int .i64 i ∧ n = .int .i64 m ∧ (i ≤ S → m = i) ∧ (S ≤ i → m = S) ∧ Noted N ∧ N.length = m ∧ (i ≤ S → DevOf false wr a N) ∧ (S < i → DevOf true wr a N) ∧ BookOf wr a g N ∧ Below w.heap.size w wr
theorem LogbookWhole_any (l : List Ad) (A : Option Addr) (c : Nat) (sealed : Int) (w : World) (hC : Kd.C adK w A l.length l) :
    Calls Try.prog 3 #[.slice A l.length c, .int .i64 sealed] w fun e w' => e = .returned (.bool true) ∧ Below w.heap.size w w' := by
  obtain ⟨S, hS, hS15⟩ := and_nat 4 (by omega) 15 sealed rfl
  have HC := Lib.hid hC
  have HS := Lib.hid hS
  clear hC hS
  go_enter Try.func3, Try.ntmps3
  go_wp2_with fail
  refine (disk_any _).mono ?_
  rintro e w1 ⟨a, rfl, ha, hM, hB1⟩
  have HB1 := Lib.hid hB1
  clear hB1
  go_wp2_with fail
  refine (noted_make a _ hM).mono ?_
  rintro e w2 ⟨rfl, hD2, hm2⟩
  have HB2 := Lib.hid (Below.mut HB1.out hm2 HB1.out.size ha)
  clear hM hm2
  go_wp2_with fail
  refine (noted_open false [] noted_nil a _ hD2).mono ?_
  rintro e w3 ⟨g, rfl, hg, hb3, hB3⟩
  have hD3 := hD2.below hB3
  have hgw : w.heap.size ≤ g := by have := HB2.out.size; omega
  have HB3 := Lib.hid (HB2.out.trans (hB3.mono HB2.out.size))
  clear hD2 hB3 hg
  go_wp2_with fail
  refine (awake40 w3).mono ?_
  rintro e w4 ⟨rfl, hB4⟩
  have HD4 := Lib.hid (hD3.below hB4)
  have Hb4 := Lib.hid (hb3.below hB4 : BookOf w4 a g [])
  have HB4 := Lib.hid (HB3.out.trans (hB4.mono HB3.out.size))
  clear hD3 hb3 hB4
  have hcw := HB4.out.size
  have HG : Hid (g ≠ a) := Lib.hid (fun h => by subst h; obtain ⟨pg, many, _, _, np, oo, n, hb, _⟩ := HD4.out; have hk := Hb4.out; unfold BookOf Blk at hk; unfold Blk at hb; rw [hb] at hk; simp [mdCells, bookC] at hk)
  go_wp2
  go_loopw [9, 10] (fun n c wr => WholeRel l S a g w n c wr) (fun _ c _ => 30 - (intOf c).toNat)
  case atStart => exact ⟨0, 0, [], by omega, by omega, rfl, rfl, fun _ => rfl, fun h => by omega, noted_nil, rfl, fun _ => HD4.out, fun h => by omega, Hb4.out, HB4.out⟩
  case round =>
    clear HD4 Hb4 HB4 HB1 HB2 HB3 hcw
    obtain ⟨i, m, N, hi, hi30, rfl, rfl, hm1, hm2, hN, hNl, hD0, hD1, hb, hB⟩ := hrel
    have HN := Lib.hid hN
    have HNl := Lib.hid hNl
    have HD0 := Lib.hid hD0
    have HD1 := Lib.hid hD1
    have Hb := Lib.hid hb
    have HB := Lib.hid hB
    clear hN hNl hD0 hD1 hb hB
    have hS := HS.out
    by_cases hlt : i < l.length ∧ i < 30
    · obtain ⟨hl1, hl2⟩ := hlt
      obtain ⟨k, hk, hk255⟩ := and_nat 8 (by omega) 255 (adA l i).k rfl
      obtain ⟨T, hT⟩ : ∃ T, T = (adA l i).t.data.toList := ⟨_, rfl⟩
      have hbT : bs T = (adA l i).t := by rw [hT, bs_of]
      clear hT
      obtain ⟨ad, e, d0, d1⟩ := at_ad (Kd.C_below HC.out HB.out) (i : Int) (by omega) (by omega)
      cases e
      rw [Int.toNat_natCast] at d0 d1
      rw [← hbT] at d1
      have hTs := bs_size T
      have i0 : (0 : Int) ≤ (i : Int) := by omega
      have i1 : (i : Int) < (l.length : Int) := by omega
      have i2 : (i : Int) < 30 := by omega
      have HbT := Lib.hid hbT
      clear hbT
      by_cases hiS : i = S
      · subst hiS
        obtain rfl : i = m := (hm1 (by omega)).symm
        have heq : ((i : Int) == (i : Int)) = true := by simp
        go_wp2_with fail
        refine (begin_dev false N a wr (HD0.out (by omega))).mono ?_
        rintro e w5 ⟨rfl, hm5, hs5⟩
        have Hs5 := Lib.hid (hs5 rfl)
        have HB5 := Lib.hid (HB.out.trans (hm5.below HB.out.size (fun i hi e => by unfold only at e; omega)))
        clear hs5
        go_wp2_with fail
        refine (seal_dev N a w5 Hs5.out).mono ?_
        rintro e w6 ⟨rfl, hm6, hs6⟩
        have Hs6 := Lib.hid hs6
        clear hs6
        go_wp2_with fail
        refine (commit_dev N a w6 Hs6.out).mono ?_
        rintro e w7 ⟨rfl, hm7, hd7⟩
        have hm57 := (hm5.trans hm6).trans hm7
        have hga : g ≠ a := HG.out
        have HBW := Lib.hid (HB.out.trans (hm57.below HB.out.size (fun i hi e => by unfold only at e; omega)))
        have HDW := Lib.hid hd7
        have HKW := Lib.hid (Blk.kept Hb.out hm57 (fun e => hga e))
        clear hd7 hm5 hm6 hm7 hm57 d0 d1
        obtain ⟨ad2, e, d0, d1⟩ := at_ad (Kd.C_below HC.out HBW.out) (i : Int) (by omega) (by omega)
        cases e
        rw [Int.toNat_natCast] at d0 d1
        rw [← HbT.out] at d1
        go_wp2
        by_cases h40 : T.length ≤ 40
        · have h40' : (T.length : Int) ≤ 40 := by omega
          refine wp_region_later_call 20 _ rfl (by kernel_rfl) (by kernel_rfl) ?_
          simp only [List.take_succ_cons, List.take_zero, List.drop_succ_cons, List.drop_zero]
          have k0 := fun n => later_cell d0 n
          have k1 := fun n => later_cell d1 n
          repeat go_big_quiet_step (fail)
          refine wpQuiet_nil ?_
          intro w2 hw2
          have hb2 := later_of hw2
          clear hw2 k0 k1 d0 d1
          go_wp2_with fail
          rw [bs_extract, List.drop_zero]
          have HBx := Lib.hid (HBW.out.trans (hb2.mono HBW.out.size))
          have HDx := Lib.hid (HDW.out.below hb2)
          have Hbx := Lib.hid (Blk.below HKW.out hb2)
          clear hb2
          obtain ⟨U, hU⟩ : ∃ U, U = T.take T.length := ⟨_, rfl⟩
          have hUl : U.length ≤ 40 := by rw [hU, List.length_take]; omega
          rw [← hU]
          clear hU
          refine (noted_add_sealed N HN.out a g k U (by omega) hUl w2 HDx.out Hbx.out).mono ?_
          rintro e w3 ⟨rfl, hD3, hb3, hm3⟩
          have HB3 := Lib.hid (HBx.out.trans (hm3.below HBx.out.size (fun i hi e => by rcases e with e | e <;> omega)))
          have HD3 := Lib.hid hD3
          have Hb3 := Lib.hid hb3
          clear hD3 hb3 hm3
          go_wp2
          refine rest_open ?_
          repeat go_big_quiet_step (fail)
          refine wpQuiet_nil ?_
          intro w4 hw4
          obtain ⟨q, rfl⟩ := hw4
          have hq := below_drewN (Below.refl w3.heap.size w3) q
          have HB4 := Lib.hid (HB3.out.trans (hq.mono HB3.out.size))
          have HD4 := Lib.hid (HD3.out.below hq)
          have Hb4 := Lib.hid (Blk.below Hb3.out hq)
          clear hq
          have hge1 : (i : Int) ≤ (i : Int) := by omega
          go_wp2
          go_roundw
          case rel => exact ⟨i + 1, i, N, by omega, by omega, by go_num, rfl, fun h => by omega, fun _ => by omega, HN.out, HNl.out, fun h => by omega, fun _ => HD4.out, Hb4.out, HB4.out⟩
          case measure => simp [intOf]; omega
        · have h40' : (40 : Int) < (T.length : Int) := by omega
          refine wp_region_later_call 20 _ rfl (by kernel_rfl) (by kernel_rfl) ?_
          simp only [List.take_succ_cons, List.take_zero, List.drop_succ_cons, List.drop_zero]
          have k0 := fun n => later_cell d0 n
          have k1 := fun n => later_cell d1 n
          repeat go_big_quiet_step (fail)
          refine wpQuiet_nil ?_
          intro w2 hw2
          have hb2 := later_of hw2
          clear hw2 k0 k1 d0 d1
          go_wp2_with fail
          rw [bs_extract, List.drop_zero]
          have HBx := Lib.hid (HBW.out.trans (hb2.mono HBW.out.size))
          have HDx := Lib.hid (HDW.out.below hb2)
          have Hbx := Lib.hid (Blk.below HKW.out hb2)
          clear hb2
          obtain ⟨U, hU⟩ : ∃ U, U = T.take 40 := ⟨_, rfl⟩
          have hUl : U.length ≤ 40 := by rw [hU, List.length_take]; omega
          rw [← hU]
          clear hU
          refine (noted_add_sealed N HN.out a g k U (by omega) hUl w2 HDx.out Hbx.out).mono ?_
          rintro e w3 ⟨rfl, hD3, hb3, hm3⟩
          have HB3 := Lib.hid (HBx.out.trans (hm3.below HBx.out.size (fun i hi e => by rcases e with e | e <;> omega)))
          have HD3 := Lib.hid hD3
          have Hb3 := Lib.hid hb3
          clear hD3 hb3 hm3
          go_wp2
          refine rest_open ?_
          repeat go_big_quiet_step (fail)
          refine wpQuiet_nil ?_
          intro w4 hw4
          obtain ⟨q, rfl⟩ := hw4
          have hq := below_drewN (Below.refl w3.heap.size w3) q
          have HB4 := Lib.hid (HB3.out.trans (hq.mono HB3.out.size))
          have HD4 := Lib.hid (HD3.out.below hq)
          have Hb4 := Lib.hid (Blk.below Hb3.out hq)
          clear hq
          have hge1 : (i : Int) ≤ (i : Int) := by omega
          go_wp2
          go_roundw
          case rel => exact ⟨i + 1, i, N, by omega, by omega, by go_num, rfl, fun h => by omega, fun _ => by omega, HN.out, HNl.out, fun h => by omega, fun _ => HD4.out, Hb4.out, HB4.out⟩
          case measure => simp [intOf]; omega
      · have hne : ((i : Int) == (S : Int)) = false := by simp; omega
        have HKW := Hb
        have HBW := HB
        by_cases hlo : i < S
        · have HDW := Lib.hid (HD0.out (by omega))
          obtain rfl : i = m := (hm1 (by omega)).symm
          have HnL := HNl.out
          go_wp2
          by_cases h40 : T.length ≤ 40
          · have h40' : (T.length : Int) ≤ 40 := by omega
            refine wp_region_later_call 20 _ rfl (by kernel_rfl) (by kernel_rfl) ?_
            simp only [List.take_succ_cons, List.take_zero, List.drop_succ_cons, List.drop_zero]
            have k0 := fun n => later_cell d0 n
            have k1 := fun n => later_cell d1 n
            repeat go_big_quiet_step (fail)
            refine wpQuiet_nil ?_
            intro w2 hw2
            have hb2 := later_of hw2
            clear hw2 k0 k1 d0 d1
            go_wp2_with fail
            rw [bs_extract, List.drop_zero]
            have HBx := Lib.hid (HBW.out.trans (hb2.mono HBW.out.size))
            have HDx := Lib.hid (HDW.out.below hb2)
            have Hbx := Lib.hid (Blk.below HKW.out hb2)
            clear hb2
            obtain ⟨U, hU⟩ : ∃ U, U = T.take T.length := ⟨_, rfl⟩
            have hUl : U.length ≤ 40 := by rw [hU, List.length_take]; omega
            rw [← hU]
            clear hU
            refine (noted_add N HN.out a g k U (by omega) hUl w2 HDx.out Hbx.out).mono ?_
            rintro e w3 ⟨rfl, hD3, hb3, hm3⟩
            have HB3 := Lib.hid (HBx.out.trans (hm3.below HBx.out.size (fun i hi e => by rcases e with e | e <;> omega)))
            have HD3 := Lib.hid hD3
            have Hb3 := Lib.hid hb3
            clear hD3 hb3 hm3
            go_wp2
            refine rest_open ?_
            repeat go_big_quiet_step (fail)
            refine wpQuiet_nil ?_
            intro w4 hw4
            obtain ⟨q, rfl⟩ := hw4
            have hq := below_drewN (Below.refl w3.heap.size w3) q
            have HB4 := Lib.hid (HB3.out.trans (hq.mono HB3.out.size))
            have HD4 := Lib.hid (HD3.out.below hq)
            have Hb4 := Lib.hid (Blk.below Hb3.out hq)
            clear hq
            have hlt1 : (i : Int) < (S : Int) := by omega
            go_wp2
            go_roundw
            case rel => exact ⟨i + 1, i + 1, _, by omega, by omega, by go_num, by go_num, fun _ => by omega, fun h => by omega, HN.out.snoc k U (by omega) hUl (by have := HNl.out; omega), by rw [List.length_append, List.length_singleton, HNl.out], fun _ => HD4.out, fun h => by omega, Hb4.out, HB4.out⟩
            case measure => simp [intOf]; omega
          · have h40' : (40 : Int) < (T.length : Int) := by omega
            refine wp_region_later_call 20 _ rfl (by kernel_rfl) (by kernel_rfl) ?_
            simp only [List.take_succ_cons, List.take_zero, List.drop_succ_cons, List.drop_zero]
            have k0 := fun n => later_cell d0 n
            have k1 := fun n => later_cell d1 n
            repeat go_big_quiet_step (fail)
            refine wpQuiet_nil ?_
            intro w2 hw2
            have hb2 := later_of hw2
            clear hw2 k0 k1 d0 d1
            go_wp2_with fail
            rw [bs_extract, List.drop_zero]
            have HBx := Lib.hid (HBW.out.trans (hb2.mono HBW.out.size))
            have HDx := Lib.hid (HDW.out.below hb2)
            have Hbx := Lib.hid (Blk.below HKW.out hb2)
            clear hb2
            obtain ⟨U, hU⟩ : ∃ U, U = T.take 40 := ⟨_, rfl⟩
            have hUl : U.length ≤ 40 := by rw [hU, List.length_take]; omega
            rw [← hU]
            clear hU
            refine (noted_add N HN.out a g k U (by omega) hUl w2 HDx.out Hbx.out).mono ?_
            rintro e w3 ⟨rfl, hD3, hb3, hm3⟩
            have HB3 := Lib.hid (HBx.out.trans (hm3.below HBx.out.size (fun i hi e => by rcases e with e | e <;> omega)))
            have HD3 := Lib.hid hD3
            have Hb3 := Lib.hid hb3
            clear hD3 hb3 hm3
            go_wp2
            refine rest_open ?_
            repeat go_big_quiet_step (fail)
            refine wpQuiet_nil ?_
            intro w4 hw4
            obtain ⟨q, rfl⟩ := hw4
            have hq := below_drewN (Below.refl w3.heap.size w3) q
            have HB4 := Lib.hid (HB3.out.trans (hq.mono HB3.out.size))
            have HD4 := Lib.hid (HD3.out.below hq)
            have Hb4 := Lib.hid (Blk.below Hb3.out hq)
            clear hq
            have hlt1 : (i : Int) < (S : Int) := by omega
            go_wp2
            go_roundw
            case rel => exact ⟨i + 1, i + 1, _, by omega, by omega, by go_num, by go_num, fun _ => by omega, fun h => by omega, HN.out.snoc k U (by omega) hUl (by have := HNl.out; omega), by rw [List.length_append, List.length_singleton, HNl.out], fun _ => HD4.out, fun h => by omega, Hb4.out, HB4.out⟩
            case measure => simp [intOf]; omega
        · have HDW := Lib.hid (HD1.out (by omega))
          go_wp2
          by_cases h40 : T.length ≤ 40
          · have h40' : (T.length : Int) ≤ 40 := by omega
            refine wp_region_later_call 20 _ rfl (by kernel_rfl) (by kernel_rfl) ?_
            simp only [List.take_succ_cons, List.take_zero, List.drop_succ_cons, List.drop_zero]
            have k0 := fun n => later_cell d0 n
            have k1 := fun n => later_cell d1 n
            repeat go_big_quiet_step (fail)
            refine wpQuiet_nil ?_
            intro w2 hw2
            have hb2 := later_of hw2
            clear hw2 k0 k1 d0 d1
            go_wp2_with fail
            rw [bs_extract, List.drop_zero]
            have HBx := Lib.hid (HBW.out.trans (hb2.mono HBW.out.size))
            have HDx := Lib.hid (HDW.out.below hb2)
            have Hbx := Lib.hid (Blk.below HKW.out hb2)
            clear hb2
            obtain ⟨U, hU⟩ : ∃ U, U = T.take T.length := ⟨_, rfl⟩
            have hUl : U.length ≤ 40 := by rw [hU, List.length_take]; omega
            rw [← hU]
            clear hU
            refine (noted_add_sealed N HN.out a g k U (by omega) hUl w2 HDx.out Hbx.out).mono ?_
            rintro e w3 ⟨rfl, hD3, hb3, hm3⟩
            have HB3 := Lib.hid (HBx.out.trans (hm3.below HBx.out.size (fun i hi e => by rcases e with e | e <;> omega)))
            have HD3 := Lib.hid hD3
            have Hb3 := Lib.hid hb3
            clear hD3 hb3 hm3
            go_wp2
            refine rest_open ?_
            repeat go_big_quiet_step (fail)
            refine wpQuiet_nil ?_
            intro w4 hw4
            obtain ⟨q, rfl⟩ := hw4
            have hq := below_drewN (Below.refl w3.heap.size w3) q
            have HB4 := Lib.hid (HB3.out.trans (hq.mono HB3.out.size))
            have HD4 := Lib.hid (HD3.out.below hq)
            have Hb4 := Lib.hid (Blk.below Hb3.out hq)
            clear hq
            have hge1 : (S : Int) ≤ (i : Int) := by omega
            go_wp2
            go_roundw
            case rel => exact ⟨i + 1, m, N, by omega, by omega, by go_num, rfl, fun h => by omega, fun _ => by omega, HN.out, HNl.out, fun h => by omega, fun _ => HD4.out, Hb4.out, HB4.out⟩
            case measure => simp [intOf]; omega
          · have h40' : (40 : Int) < (T.length : Int) := by omega
            refine wp_region_later_call 20 _ rfl (by kernel_rfl) (by kernel_rfl) ?_
            simp only [List.take_succ_cons, List.take_zero, List.drop_succ_cons, List.drop_zero]
            have k0 := fun n => later_cell d0 n
            have k1 := fun n => later_cell d1 n
            repeat go_big_quiet_step (fail)
            refine wpQuiet_nil ?_
            intro w2 hw2
            have hb2 := later_of hw2
            clear hw2 k0 k1 d0 d1
            go_wp2_with fail
            rw [bs_extract, List.drop_zero]
            have HBx := Lib.hid (HBW.out.trans (hb2.mono HBW.out.size))
            have HDx := Lib.hid (HDW.out.below hb2)
            have Hbx := Lib.hid (Blk.below HKW.out hb2)
            clear hb2
            obtain ⟨U, hU⟩ : ∃ U, U = T.take 40 := ⟨_, rfl⟩
            have hUl : U.length ≤ 40 := by rw [hU, List.length_take]; omega
            rw [← hU]
            clear hU
            refine (noted_add_sealed N HN.out a g k U (by omega) hUl w2 HDx.out Hbx.out).mono ?_
            rintro e w3 ⟨rfl, hD3, hb3, hm3⟩
            have HB3 := Lib.hid (HBx.out.trans (hm3.below HBx.out.size (fun i hi e => by rcases e with e | e <;> omega)))
            have HD3 := Lib.hid hD3
            have Hb3 := Lib.hid hb3
            clear hD3 hb3 hm3
            go_wp2
            refine rest_open ?_
            repeat go_big_quiet_step (fail)
            refine wpQuiet_nil ?_
            intro w4 hw4
            obtain ⟨q, rfl⟩ := hw4
            have hq := below_drewN (Below.refl w3.heap.size w3) q
            have HB4 := Lib.hid (HB3.out.trans (hq.mono HB3.out.size))
            have HD4 := Lib.hid (HD3.out.below hq)
            have Hb4 := Lib.hid (Blk.below Hb3.out hq)
            clear hq
            have hge1 : (S : Int) ≤ (i : Int) := by omega
            go_wp2
            go_roundw
            case rel => exact ⟨i + 1, m, N, by omega, by omega, by go_num, rfl, fun h => by omega, fun _ => by omega, HN.out, HNl.out, fun h => by omega, fun _ => HD4.out, Hb4.out, HB4.out⟩
            case measure => simp [intOf]; omega
    · obtain ⟨sl, hD⟩ : ∃ sl, DevOf sl wr a N := by
        by_cases h : i ≤ S
        · exact ⟨false, HD0.out h⟩
        · exact ⟨true, HD1.out (by omega)⟩
      have HD := Lib.hid hD
      clear hD HD0 HD1
      have hl := last_any a g 4 64 N.length (ntsB (bk ntSz N).cur) (bk ntSz N).page
      have Hl := Lib.hid hl
      clear hl
      have HN' := Lib.hid (show ((N.length : Nat) : Int) = (m : Int) by rw [HNl.out])
      by_cases hl1 : i < l.length
      · have hl2 : (30 : Int) ≤ (i : Int) := by omega
        have hl3 : (i : Int) < (l.length : Int) := by omega
        go_wp2_with fail
        refine (noted_all sl N HN.out a g wr HD.out Hb.out).mono ?_
        rintro e w2 ⟨⟨v, rfl, _⟩, hB2⟩
        have HB2 := Lib.hid (HB.out.trans (hB2.mono HB.out.size))
        have HD2 := Lib.hid (HD.out.below hB2)
        have Hb2 := Lib.hid (Blk.below Hb.out hB2)
        clear hB2
        go_wp2_with fail
        refine (Hl.out w2 Hb2.out).mono ?_
        rintro e w3 ⟨rfl, rfl⟩
        rw [HN'.out]
        go_wp2_with fail
        refine (begin_dev sl N a w2 HD2.out).mono ?_
        rintro e w3 ⟨rfl, hm3, _⟩
        have HB3 := Lib.hid (HB2.out.trans (hm3.below HB2.out.size (fun i hi e => by unfold only at e; omega)))
        clear hm3
        go_wp2
        go_ret
        exact ⟨rfl, HB3.out⟩
      · have hl3 : (l.length : Int) ≤ (i : Int) := by omega
        go_wp2_with fail
        refine (noted_all sl N HN.out a g wr HD.out Hb.out).mono ?_
        rintro e w2 ⟨⟨v, rfl, _⟩, hB2⟩
        have HB2 := Lib.hid (HB.out.trans (hB2.mono HB.out.size))
        have HD2 := Lib.hid (HD.out.below hB2)
        have Hb2 := Lib.hid (Blk.below Hb.out hB2)
        clear hB2
        go_wp2_with fail
        refine (Hl.out w2 Hb2.out).mono ?_
        rintro e w3 ⟨rfl, rfl⟩
        rw [HN'.out]
        go_wp2_with fail
        refine (begin_dev sl N a w2 HD2.out).mono ?_
        rintro e w3 ⟨rfl, hm3, _⟩
        have HB3 := Lib.hid (HB2.out.trans (hm3.below HB2.out.size (fun i hi e => by unfold only at e; omega)))
        clear hm3
        go_wp2
        go_ret
        exact ⟨rfl, HB3.out⟩
end Go.Proofs.Yteilmbhnbmmcjaa.B
