/- Helper: the statement that just pages that are other ones are written; walked. No condition. -/
import Derived.Test.YteilmbhnbmmcjaaNk
namespace Go.Proofs.Yteilmbhnbmmcjaa.B
open Go.RowKit Go.Proofs.YteilmbhnbmmcjaaW.PrintWords Go.Proofs.Yteilmbhnbmmcjaa.Later
set_option maxRecDepth 100000
set_option maxHeartbeats 3200000
def rSl : Rc := ⟨7, 5, 0, 0, 0, 0⟩
theorem rSl_may : rSl.may = true := by decide
theorem rSl_do (pg : Int → Option ByteArray) : doT (LT 5 4 pg false) rSl = (0, LT 5 4 pg true) := by
  have : LT 5 4 pg false rSl.s = some ⟨4, false, pg⟩ := LT_at 5 4 pg false
  simp only [doT, this]
  rw [if_neg (show ¬ rSl.k = 4 by decide), if_neg (show ¬ rSl.k = 5 by decide), if_neg (show ¬ rSl.k = 6 by decide), if_pos (show rSl.k = 7 by decide)]
  exact congrArg (Prod.mk 0) (LT_up 5 4 4 pg pg false true)
theorem kseal_do (F : Int → Option ByteArray) (hF : PgIn 4 F) (a : Nat) (w : World) (hM : MdAt w a (mkM (LT 5 4 F false) (some (LT 5 4 F false)) 0)) :
    Calls Try.prog 16 #[.pointer (some ⟨a, 0, none⟩), .agg #[.int .i64 7, .int .i64 5, .int .i64 0, .int .i64 0, .int .i64 0, .int .i64 0]] w fun e w' => e = .returned (.int .i64 0) ∧ MdAt w' a (mkM (LT 5 4 F false) (some (LT 5 4 F true)) 1) ∧ Mut (only a) w w' := by
  have hd := do_m7 (mkM (LT 5 4 F false) (some (LT 5 4 F false)) 0) a w hM (LT 5 4 F false) rfl (by simp [mkM]) rSl rfl (by constructor <;> decide) (fun _ => by rw [rSl_do]; exact LT_wf (by omega) (by omega) (by omega) (by omega) hF true) (fun _ _ => by rw [rSl_do, LT_total (by omega) (by omega)]; refine ⟨?_, ?_, by decide⟩ <;> simp [mkM])
  rw [rSl_may, if_pos rfl, rSl_do] at hd
  have e : mStep (mkM (LT 5 4 F false) (some (LT 5 4 F false)) 0) (0, LT 5 4 F true) = (0, mkM (LT 5 4 F false) (some (LT 5 4 F true)) 1) := by
    unfold mStep
    rw [if_neg (by simp [mkM]), if_neg (by simp)]
    rfl
  rw [e] at hd
  exact hd
def WritesRel (a g : Nat) (w : World) (c : Value) (wr : World) : Prop :=
  ∃ (i : Nat) (m : List Pr) (pg : Nat → Option (List UInt8)), i ≤ 8 ∧ c = .int .i64 i ∧ Blk wr g (stC a) 113 ∧ Says pg m ∧ Can pg m ∧ KvDev wr a pg ∧ Below w.heap.size w wr
theorem KvWrites_any (l : List Pr) (hl : ∀ x ∈ l, Fine x) (A : Option Addr) (c : Nat) (s : ByteArray) (hs : s.size ≤ 140737488351232) (w : World) (hC : Kd.C prK w A l.length l) :
    Calls Try.prog 9 #[.slice A l.length c, .string s] w fun e w' => e = .returned (.bool true) ∧ Below w.heap.size w w' := by
  rw [← bs_of s]
  obtain ⟨ky, hky⟩ : ∃ k, k = s.data.toList := ⟨_, rfl⟩
  rw [← hky]
  have hsz := bs_size ky
  have hkl : ky.length ≤ 140737488351232 := by rw [← bs_size ky, hky, bs_of]; exact hs
  clear hky hs
  have HC := Lib.hid hC
  have Hl := Lib.hid hl
  clear hC hl
  go_enter Try.func9, Try.ntmps9
  go_wp2_with fail
  refine (kdisk_any w).mono ?_
  rintro e w1 ⟨a, rfl, ha, hM, hB1⟩
  have HB1 := Lib.hid hB1
  have HM := Lib.hid hM
  clear hB1 hM
  go_wp2_with fail
  refine (kmake_ok a w1 HM.out).mono ?_
  rintro e w2 ⟨rfl, h2, hm2⟩
  have H2 := Lib.hid (kvdev_new _ _ _ h2)
  have HB2 := Lib.hid (Below.mut HB1.out hm2 HB1.out.size ha)
  clear h2 hm2 HM HB1
  go_wp2_with fail
  refine (kopen_size a 64 w2).mono ?_
  rintro e w3 ⟨⟨v, rfl, hv⟩, hb3⟩
  obtain ⟨rfl, hg⟩ := hv rfl
  have hga : w2.heap.size ≠ a := by
    obtain ⟨F, many, _, _, _, ⟨np, oo, n, hb, _⟩⟩ := H2.out
    have := Blk.lt hb
    omega
  obtain ⟨g, hg'⟩ : ∃ g, g = w2.heap.size := ⟨_, rfl⟩
  rw [← hg'] at hg hga ⊢
  have H3 := Lib.hid (H2.out.below hb3)
  have HB3 := Lib.hid (HB2.out.trans (hb3.mono HB2.out.size))
  have Hg := Lib.hid hg
  have Hga := Lib.hid hga
  have e0 : openE 64 = 0 := rfl
  rw [e0]
  clear hv hb3 hg hg' H2 HB2 e0 hga
  go_wp2_with fail
  refine (awake_any w3).mono ?_
  rintro e w4 ⟨rfl, hb4⟩
  have H4 := Lib.hid (H3.out.below hb4)
  have HB4 := Lib.hid (HB3.out.trans (hb4.mono HB3.out.size))
  have Hg4 := Lib.hid (Hg.out.below hb4)
  clear hb4 H3 HB3 Hg
  go_wp2
  go_loopw [9] (fun c wr => WritesRel a g w c wr) (fun c _ => 8 - (intOf c).toNat)
  case atStart => exact ⟨0, [], fun _ => none, by omega, rfl, Hg4.out, Says.none, fun k hk => .inr ⟨rfl, rfl⟩, H4.out, HB4.out⟩
  case round =>
    obtain ⟨i, m, pg, hi, rfl, hg, hS, hCan, hD, hB⟩ := hrel
    have Hg := Lib.hid hg
    have HS := Lib.hid hS
    have HCan := Lib.hid hCan
    have HD := Lib.hid hD
    have HB := Lib.hid hB
    clear hg hS hCan hD hB H4 HB4 Hg4
    by_cases hlt : i < l.length ∧ i < 8
    · obtain ⟨h1, h2⟩ := hlt
      obtain ⟨ad, e, d0, d1⟩ := at_pr (Kd.C_below HC.out HB.out) (i : Int) (by omega) (by omega)
      cases e
      rw [Int.toNat_natCast] at d0 d1
      obtain ⟨x, hx⟩ : ∃ x, x = prA l i := ⟨_, rfl⟩
      rw [← hx] at d0 d1
      have hxf : Fine x := by rw [hx, prA_get l i h1]; exact Hl.out _ (List.getElem_mem _)
      have i1 : (i : Int) < (l.length : Int) := by omega
      have i2 : (i : Int) < 8 := by omega
      have j0 : (0 : Int) ≤ (i : Int) := by omega
      obtain ⟨w5, hw5⟩ : ∃ w5, w5 = wr.alloc (.cells #[.string (bs x.k), .string (bs x.v)] 63) := ⟨_, rfl⟩
      have hb5 : Below wr.heap.size wr w5 := by rw [hw5]; exact (Below.refl _ _).alloc (Nat.le_refl _) _
      have hk5 : Blk w5 wr.heap.size #[.string (bs x.k), .string (bs x.v)] 63 := by rw [hw5]; exact Blk.new wr _ 63
      have hset := kset_any a g pg m HS.out w5 (HD.out.below hb5) (Hg.out.below hb5) [x] (by simp) (fun y hy => by obtain rfl := List.mem_singleton.1 hy; exact hxf) (some ⟨wr.heap.size, 0, none⟩) 1 (lit_C w5 wr.heap.size x hk5)
      have HB5 := Lib.hid (HB.out.trans (hb5.mono HB.out.size))
      have HD5 := Lib.hid (HD.out.below hb5)
      have Hg5 := Lib.hid (Hg.out.below hb5)
      rw [hw5] at hset HB5 HD5 Hg5
      have Hset := Lib.hid hset
      clear hset hx hxf hw5 hb5 hk5
      go_wp2_with fail
      refine Hset.out.mono ?_
      rintro e w6 ⟨z, rfl, hq⟩
      obtain ⟨m', pg', p1, p2, p3, p4⟩ := chg_can HS.out HCan.out HD5.out hq
      have P1 := Lib.hid p1
      have P2 := Lib.hid p2
      have P3 := Lib.hid p3
      have P4 := Lib.hid (Below.mut HB5.out p4 HB5.out.size ha)
      have P5 := Lib.hid (Hg5.out.kept p4 Hga.out)
      clear hq p1 p2 p3 p4
      go_wp2
      go_roundw
      case rel => exact ⟨i + 1, m', pg', by omega, by go_num, P5.out, P1.out, P2.out, P3.out, P4.out⟩
      case measure => simp [intOf]; omega
    · go_upto_region 7 with fail
      go_cut [47] (fun t wx => t = .bool false ∧ wr = wx)
      case first =>
        by_cases h1 : i < l.length
        · have k1 : (i : Int) < (l.length : Int) := by omega
          have k2 : (8 : Int) ≤ (i : Int) := by omega
          clear hlt
          go_wp2
          go_meet
          exact ⟨by simp; omega, rfl⟩
        · have k1 : (l.length : Int) ≤ (i : Int) := by omega
          clear hlt
          go_wp2
          go_meet
          exact ⟨rfl, rfl⟩
      case rest =>
        obtain ⟨rfl, rfl⟩ := hcut
        clear hlt
        have hml := says_len HS.out HD.out.choose_spec.choose_spec.2.2.1
        go_wp2_with fail
        refine (kall_cap_says a g pg m HS.out wr HD.out Hg.out).mono ?_
        rintro e wD ⟨A8, c8, rfl, hC8, hcap, hown, hbD⟩
        have hawr : a < wr.heap.size := by
          obtain ⟨F, many, _, _, _, ⟨np, oo, n, hb, _⟩⟩ := HD.out
          exact hb.lt
        have Hown := Lib.hid (show ∀ ad, A8 = some ad → ¬ only a ad.block from fun ad e h => by have := hown ad e; have h2 : ad.block = a := h; omega)
        clear hown hawr
        have HC8 := Lib.hid hC8
        have HDD := Lib.hid (HD.out.below hbD)
        have HBD := Lib.hid (HB.out.trans (hbD.mono HB.out.size))
        have HgD := Lib.hid (Hg.out.below hbD)
        clear hC8 hbD
        obtain ⟨F, many, hF, hFp, hlen, hM⟩ := HDD.out
        have HF := Lib.hid hF
        have HFp := Lib.hid hFp
        have Hlen := Lib.hid hlen
        have HM := Lib.hid hM
        clear hF hFp hlen hM HD HB Hg
        go_wp2_with fail
        refine (begin_any _ a wD HM.out).mono ?_
        rintro e wE ⟨rfl, h3, hm3⟩
        have H3 := Lib.hid (show MdAt wE a (mkM (LT 5 4 F false) (some (LT 5 4 F false)) 0) from h3)
        have Hm3 := Lib.hid hm3
        clear h3 hm3
        go_wp2_with fail
        refine (kseal_do F HF.out a wE H3.out).mono ?_
        rintro e wF ⟨rfl, h4, hm4⟩
        have H4 := Lib.hid h4
        have Hm4 := Lib.hid (Hm3.out.trans hm4)
        clear h4 hm4
        go_wp2_with fail
        refine (commit_m _ a wF H4.out).mono ?_
        rintro e wG ⟨rfl, h5, hm5⟩
        have HK := Lib.hid (show KvSl wG a pg from ⟨F, 1, HF.out, HFp.out, Hlen.out, h5⟩)
        have HmG := Hm4.out.trans hm5
        have HBG := Lib.hid (Below.mut HBD.out HmG HBD.out.size ha)
        have HgG := Lib.hid (HgD.out.kept HmG Hga.out)
        have HCG := Lib.hid (C_mut HC8.out Hown.out HmG)
        clear h5 hm5 H3 Hm3 H4 Hm4 HM HF HFp Hlen
        have et : (⟨#[122]⟩ : ByteArray) ++ (bs ky).extract 0 (min (ky.length : Int) 9).toNat = bs (122 :: ky.take 9) := by
          have e1 : (bs ky).extract 0 (min (ky.length : Int) 9).toNat = bs (ky.take 9) := by
            rw [bs_extract, List.drop_zero]
            by_cases h : ky.length ≤ 9
            · rw [show (min (ky.length : Int) 9).toNat = ky.length by omega, List.take_length, List.take_of_length_le h]
            · rw [show (min (ky.length : Int) 9).toNat = 9 by omega]
          rw [e1, show (⟨#[122]⟩ : ByteArray) = bs [122] from rfl, bs_app]
          rfl
        have Het := Lib.hid et
        clear et
        go_upto_region 16 with fail
        rw [Het.out]
        obtain ⟨nm, hnm⟩ : ∃ n, n = (122 : UInt8) :: ky.take 9 := ⟨_, rfl⟩
        rw [← hnm]
        have hng : goodK nm [] = true := by rw [hnm]; simp [goodK, List.length_take]; omega
        obtain ⟨Y, hY⟩ : ∃ Y, Y = m.take 5 := ⟨_, rfl⟩
        have hYl : Y.length = min m.length 5 := by rw [hY, List.length_take, Nat.min_comm]
        have hYm : ∀ x ∈ Y, x ∈ m := fun x hx => List.mem_of_mem_take (by rw [← hY]; exact hx)
        have hCy : Kd.C prK wG A8 Y.length Y := by
          have := Kd.C_take (m := min m.length 5) HCG.out (Nat.min_le_left _ _)
          rw [show m.take (min m.length 5) = Y by rw [hY]; apply List.take_eq_take_iff.2; omega] at this
          exact this
        have hYb : Y.any badP = false := by
          rw [List.any_eq_false]
          intro x hx
          simp [badP, HS.out.good x (hYm x hx)]
        have hset := kset_sl a g pg m HS.out wG HK.out HgG.out Y (by omega) (fun x hx => by
          obtain ⟨_, g2, g3⟩ := (goodK_iff _ _).1 (HS.out.good x (hYm x hx))
          exact ⟨by omega, by omega⟩) A8 c8 hCy
        have hq0 := fun z w2 (h : ChgS false m Y pg a wG z w2) => sl_same HK.out HCan.out hYb (fold_same HS.out.st hYm Y.length (Nat.le_refl _)) h
        obtain ⟨YL, hYL⟩ : ∃ n, n = Y.length := ⟨_, rfl⟩
        rw [← hYL] at hset hYl
        have hcutY : ∀ W, (Instr.slice 58 (.slice A8 m.length c8) none (some (.int .i64 (min (m.length : Int) 5))) none).run Try.prog W = .ok (.slice A8 YL c8) W := fun W => by
          have e : (min (m.length : Int) 5).toNat = YL := by rw [hYl]; omega
          have := cut_to (P := Try.prog) 58 63 .i64 Try.underlying58 (i := Try.t63) (by kernel_rfl) A8 m.length c8 (min (m.length : Int) 5) (by omega) (by omega) hcap W
          rw [e] at this
          exact this
        have Hset := Lib.hid hset
        have Hq0 := Lib.hid hq0
        have Hng := Lib.hid hng
        clear hY hYl hYm hCy hYb hset hq0 hYL hng hnm HC8 HCG
        go_wp2_with fail
        refine Hset.out.mono ?_
        rintro e wH ⟨z, rfl, hq⟩
        obtain ⟨rfl, hK, hm⟩ := Hq0.out z wH hq
        have HKh := Lib.hid hK
        have HBh := Lib.hid (Below.mut HBG.out hm HBG.out.size ha)
        have Hgh := Lib.hid (HgG.out.kept hm Hga.out)
        clear hq hK hm hcutY
        obtain ⟨vl, hvl⟩ : ∃ v : List UInt8, v = [97, 110, 111, 116, 104, 101, 114, 32, 118, 97, 108, 117, 101, 32, 116, 104, 97, 110, 32, 97, 110, 121] := ⟨_, rfl⟩
        have hvs : (⟨#[97, 110, 111, 116, 104, 101, 114, 32, 118, 97, 108, 117, 101, 32, 116, 104, 97, 110, 32, 97, 110, 121]⟩ : ByteArray) = bs vl := by rw [hvl]; rfl
        have hvg : goodK nm vl = true := by
          obtain ⟨g1, g2, _⟩ := (goodK_iff _ _).1 Hng.out
          exact (goodK_iff _ _).2 ⟨g1, g2, by rw [hvl]; simp⟩
        have Hvg := Lib.hid hvg
        have Hvs := Lib.hid hvs
        clear hvl hvg hvs
        go_upto_region 17 with fail
        rw [Hvs.out]
        obtain ⟨wI, hwI⟩ : ∃ W, W = wH.alloc (.cells #[.string (bs nm), .string (bs vl)] 63) := ⟨_, rfl⟩
        rw [← hwI]
        obtain ⟨vb, hvb⟩ : ∃ b, b = wH.heap.size := ⟨_, rfl⟩
        have hbI : Below wH.heap.size wH wI := by rw [hwI]; exact (Below.refl _ _).alloc (Nat.le_refl _) _
        have hkI : Blk wI vb #[.string (bs nm), .string (bs vl)] 63 := by rw [hwI, hvb]; exact Blk.new wH _ 63
        rw [← hvb]
        have hva : vb ≠ a := by
          obtain ⟨F, many, _, _, _, ⟨np, oo, n, hb, _⟩⟩ := HKh.out
          have := hb.lt
          omega
        have HKi := Lib.hid (HKh.out.below hbI)
        have Hgi := Lib.hid (Hgh.out.below hbI)
        have HBi := Lib.hid (HBh.out.trans (hbI.mono HBh.out.size))
        have Hki := Lib.hid hkI
        have Hva := Lib.hid hva
        clear hvb hwI hbI hkI hva HKh Hgh HBh
        have Hget := Lib.hid (kget_sl a g pg m HS.out wI HKi.out Hgi.out nm Hng.out)
        go_wp2_with fail
        refine Hget.out.mono ?_
        rintro e wJ ⟨s', z', rfl, hgq, hbJ⟩
        have HGQ := Lib.hid hgq
        have HKj := Lib.hid (HKi.out.below hbJ)
        have Hgj := Lib.hid (Hgi.out.below hbJ)
        have HBj := Lib.hid (HBi.out.trans (hbJ.mono HBi.out.size))
        have Hkj := Lib.hid (Hki.out.below hbJ)
        clear hgq hbJ HKi Hgi HBi Hki Hget
        have c0 : wJ.cell? ⟨vb, 0, none⟩ = some (.string (bs nm)) := Hkj.out.cell 0
        have c1 : wJ.cell? ⟨vb, 1, none⟩ = some (.string (bs vl)) := Hkj.out.cell 1
        have hfn : Fine ⟨nm, vl⟩ := by
          obtain ⟨_, g2, g3⟩ := (goodK_iff _ _).1 Hvg.out
          exact ⟨by show nm.length ≤ _; omega, by show vl.length ≤ _; omega⟩
        obtain ⟨wK, hwK⟩ : ∃ W, W = wJ.alloc (.cells #[.string (bs nm), .string (bs vl)] 63) := ⟨_, rfl⟩
        have hbK : Below wJ.heap.size wJ wK := by rw [hwK]; exact (Below.refl _ _).alloc (Nat.le_refl _) _
        have hkK : Blk wK wJ.heap.size #[.string (bs nm), .string (bs vl)] 63 := by rw [hwK]; exact Blk.new wJ _ 63
        have hst := kset_sl a g pg m HS.out wK (HKj.out.below hbK) (Hgj.out.below hbK) [⟨nm, vl⟩] (by simp) (fun y hy => by obtain rfl := List.mem_singleton.1 hy; exact hfn) (some ⟨wJ.heap.size, 0, none⟩) 1 (lit_C wK wJ.heap.size ⟨nm, vl⟩ hkK)
        have HKk := Lib.hid (HKj.out.below hbK)
        have Hgk := Lib.hid (Hgj.out.below hbK)
        have HBk := Lib.hid (HBj.out.trans (hbK.mono HBj.out.size))
        have Hkk := Lib.hid (Hkj.out.below hbK)
        rw [hwK] at hst HKk Hgk HBk Hkk
        have Hst := Lib.hid hst
        clear hst hwK hbK hkK hfn
        have hb1 : ([⟨nm, vl⟩] : List Pr).any badP = false := by simp [badP, Hvg.out]
        have hb2 : (([nm] : List (List UInt8)).map keyP).any badP = false := by simp [badP, keyP, Hng.out]
        have Hb1 := Lib.hid hb1
        have Hb2 := Lib.hid hb2
        clear hb1 hb2
        have hvt := bs_toList vl
        by_cases hkey : ∃ x, x ∈ m ∧ x.k = nm
        · obtain ⟨x, hxm, hxk⟩ := hkey
          obtain ⟨es, ez⟩ := HGQ.out.1 x hxm hxk
          subst es ez
          have Hxm := Lib.hid hxm
          have Hxk := Lib.hid hxk
          have hxt := bs_toList x.v
          by_cases hv : x.v = vl
          · have Hin := Lib.hid (show (⟨nm, vl⟩ : Pr) ∈ m by rw [← hxk, ← hv]; exact hxm)
            have hvv : (x.v == vl) = true := by simp [hv]
            clear hv hxm hxk
            go_wp2_with fail
            refine Hst.out.mono ?_
            rintro e wL ⟨z1, rfl, hq⟩
            obtain ⟨hz1, k1, k2⟩ := sl_same HKk.out HCan.out Hb1.out (by rw [fold_one]; exact set1_same HS.out.st Hin.out) hq
            have HKl := Lib.hid k1
            have Hgl := Lib.hid (Hgk.out.kept k2 Hga.out)
            have HBl := Lib.hid (Below.mut HBk.out k2 HBk.out.size ha)
            have Hkl := Lib.hid (Hkk.out.kept k2 Hva.out)
            clear hq k1 k2
            obtain ⟨wM, hwM⟩ : ∃ W, W = wL.alloc (.cells #[.string (bs nm)] 9) := ⟨_, rfl⟩
            have hbM : Below wL.heap.size wL wM := by rw [hwM]; exact (Below.refl _ _).alloc (Nat.le_refl _) _
            have hkM : Blk wM wL.heap.size #[.string (bs nm)] 9 := by rw [hwM]; exact Blk.new wL _ 9
            have hdr := kdrop_sl a g pg m HS.out wM (HKl.out.below hbM) (Hgl.out.below hbM) [nm] (by simp) (fun y hy => by
              obtain rfl := List.mem_singleton.1 hy
              obtain ⟨_, g2, _⟩ := (goodK_iff _ _).1 Hng.out
              omega) (some ⟨wL.heap.size, 0, none⟩) 1 (lit_Cs wM wL.heap.size nm hkM)
            have HKm := Lib.hid (HKl.out.below hbM)
            have HBm := Lib.hid (HBl.out.trans (hbM.mono HBl.out.size))
            have Hkm := Lib.hid (Hkl.out.below hbM)
            rw [hwM] at hdr HKm HBm Hkm
            have Hdr := Lib.hid hdr
            have Hz1 := Lib.hid hz1
            clear hdr hwM hbM hkM hz1
            go_wp2_with fail
            refine Hdr.out.mono ?_
            rintro e wN ⟨z2, rfl, wo, hbo, hq⟩
            obtain ⟨hz2, k1, k2⟩ := sl_other HS.out (HKm.out.below hbo) Hb2.out (by rw [show ([nm].map keyP) = [keyP nm] from rfl, fold_one]; exact drop1_other Hxm.out Hxk.out) hq
            have HBn := Lib.hid (Below.mut (HBm.out.trans (hbo.mono HBm.out.size)) k2 (HBm.out.trans (hbo.mono HBm.out.size)).size ha)
            have d1 : wN.cell? ⟨vb, 1, none⟩ = some (.string (bs vl)) := ((Hkm.out.below hbo).kept k2 Hva.out).cell 1
            clear hq k1 k2 hbo
            have hz1 := Hz1.out
            subst hz1
            rcases hz2 with rfl | rfl
            all_goals (go_wp2; go_ret; exact ⟨by simp, HBn.out⟩)
          · have Hin := Lib.hid (show (⟨nm, vl⟩ : Pr) ∉ m from fun h => by
              have h1 := (HGQ.out.1 ⟨nm, vl⟩ h rfl).1
              exact hv h1)
            have hvv : (x.v == vl) = false := by simpa using hv
            clear hv hxm hxk
            go_wp2_with fail
            refine Hst.out.mono ?_
            rintro e wL ⟨z1, rfl, hq⟩
            obtain ⟨hz1, k1, k2⟩ := sl_other HS.out HKk.out Hb1.out (by rw [fold_one]; exact set1_other HS.out.st Hin.out) hq
            have HKl := Lib.hid k1
            have Hgl := Lib.hid (Hgk.out.kept k2 Hga.out)
            have HBl := Lib.hid (Below.mut HBk.out k2 HBk.out.size ha)
            have Hkl := Lib.hid (Hkk.out.kept k2 Hva.out)
            clear hq k1 k2
            obtain ⟨wM, hwM⟩ : ∃ W, W = wL.alloc (.cells #[.string (bs nm)] 9) := ⟨_, rfl⟩
            have hbM : Below wL.heap.size wL wM := by rw [hwM]; exact (Below.refl _ _).alloc (Nat.le_refl _) _
            have hkM : Blk wM wL.heap.size #[.string (bs nm)] 9 := by rw [hwM]; exact Blk.new wL _ 9
            have hdr := kdrop_sl a g pg m HS.out wM (HKl.out.below hbM) (Hgl.out.below hbM) [nm] (by simp) (fun y hy => by
              obtain rfl := List.mem_singleton.1 hy
              obtain ⟨_, g2, _⟩ := (goodK_iff _ _).1 Hng.out
              omega) (some ⟨wL.heap.size, 0, none⟩) 1 (lit_Cs wM wL.heap.size nm hkM)
            have HKm := Lib.hid (HKl.out.below hbM)
            have HBm := Lib.hid (HBl.out.trans (hbM.mono HBl.out.size))
            have Hkm := Lib.hid (Hkl.out.below hbM)
            rw [hwM] at hdr HKm HBm Hkm
            have Hdr := Lib.hid hdr
            have Hz1 := Lib.hid hz1
            clear hdr hwM hbM hkM hz1
            go_wp2_with fail
            refine Hdr.out.mono ?_
            rintro e wN ⟨z2, rfl, wo, hbo, hq⟩
            obtain ⟨hz2, k1, k2⟩ := sl_other HS.out (HKm.out.below hbo) Hb2.out (by rw [show ([nm].map keyP) = [keyP nm] from rfl, fold_one]; exact drop1_other Hxm.out Hxk.out) hq
            have HBn := Lib.hid (Below.mut (HBm.out.trans (hbo.mono HBm.out.size)) k2 (HBm.out.trans (hbo.mono HBm.out.size)).size ha)
            have d1 : wN.cell? ⟨vb, 1, none⟩ = some (.string (bs vl)) := ((Hkm.out.below hbo).kept k2 Hva.out).cell 1
            clear hq k1 k2 hbo
            rcases Hz1.out with rfl | rfl
            all_goals (rcases hz2 with rfl | rfl)
            all_goals (go_wp2; go_ret; exact ⟨by simp, HBn.out⟩)
        · have hno : ∀ x ∈ m, x.k ≠ nm := fun x hx e => hkey ⟨x, hx, e⟩
          have ez := HGQ.out.2 hno
          subst ez
          have Hno := Lib.hid (show ∀ y ∈ m, y.k ≠ (keyP nm).k from hno)
          have Hin := Lib.hid (show (⟨nm, vl⟩ : Pr) ∉ m from fun h => hno _ h rfl)
          clear hkey hno
          go_wp2_with fail
          refine Hst.out.mono ?_
          rintro e wL ⟨z1, rfl, hq⟩
          obtain ⟨hz1, k1, k2⟩ := sl_other HS.out HKk.out Hb1.out (by rw [fold_one]; exact set1_other HS.out.st Hin.out) hq
          have HKl := Lib.hid k1
          have Hgl := Lib.hid (Hgk.out.kept k2 Hga.out)
          have HBl := Lib.hid (Below.mut HBk.out k2 HBk.out.size ha)
          have Hkl := Lib.hid (Hkk.out.kept k2 Hva.out)
          clear hq k1 k2
          obtain ⟨wM, hwM⟩ : ∃ W, W = wL.alloc (.cells #[.string (bs nm)] 9) := ⟨_, rfl⟩
          have hbM : Below wL.heap.size wL wM := by rw [hwM]; exact (Below.refl _ _).alloc (Nat.le_refl _) _
          have hkM : Blk wM wL.heap.size #[.string (bs nm)] 9 := by rw [hwM]; exact Blk.new wL _ 9
          have hdr := kdrop_sl a g pg m HS.out wM (HKl.out.below hbM) (Hgl.out.below hbM) [nm] (by simp) (fun y hy => by
            obtain rfl := List.mem_singleton.1 hy
            obtain ⟨_, g2, _⟩ := (goodK_iff _ _).1 Hng.out
            omega) (some ⟨wL.heap.size, 0, none⟩) 1 (lit_Cs wM wL.heap.size nm hkM)
          have HKm := Lib.hid (HKl.out.below hbM)
          have HBm := Lib.hid (HBl.out.trans (hbM.mono HBl.out.size))
          have Hkm := Lib.hid (Hkl.out.below hbM)
          rw [hwM] at hdr HKm HBm Hkm
          have Hdr := Lib.hid hdr
          have Hz1 := Lib.hid hz1
          clear hdr hwM hbM hkM hz1
          go_wp2_with fail
          refine Hdr.out.mono ?_
          rintro e wN ⟨z2, rfl, wo, hbo, hq⟩
          obtain ⟨hz2, k1, k2⟩ := sl_same (HKm.out.below hbo) HCan.out Hb2.out (by rw [show ([nm].map keyP) = [keyP nm] from rfl, fold_one]; exact drop1_same Hno.out) hq
          have HBn := Lib.hid (Below.mut (HBm.out.trans (hbo.mono HBm.out.size)) k2 (HBm.out.trans (hbo.mono HBm.out.size)).size ha)
          have d1 : wN.cell? ⟨vb, 1, none⟩ = some (.string (bs vl)) := ((Hkm.out.below hbo).kept k2 Hva.out).cell 1
          clear hq k1 k2 hbo
          subst hz2
          rcases Hz1.out with rfl | rfl
          all_goals (go_wp2; go_ret; exact ⟨by simp, HBn.out⟩)
end Go.Proofs.Yteilmbhnbmmcjaa.B
