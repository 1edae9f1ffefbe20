/- Helper: the law UpdRefuses; walked. No condition. -/
import Derived.Test.YticnmogeknlmeaaGreatDoorHZe
namespace Go.Proofs.YticnmogeknlmeaaGreatDoor.B
open Go.RowKit Go.Maps Go.Proofs.YticnmogeknlmeaaGreatDoorW.PrintWords Go.Proofs.YticnmogeknlmeaaGreatDoor.Later
set_option maxRecDepth 100000
set_option maxHeartbeats 8000000
theorem xor_one (y : UInt8) : bits .xor .u8 (y.toNat : Int) 1 = ((y ^^^ 1).toNat : Int) := by
  have h : ∀ n : Fin 256, bits .xor .u8 ((UInt8.ofNat n.val).toNat : Int) 1 = ((UInt8.ofNat n.val ^^^ 1).toNat : Int) := by decide +kernel
  have := h ⟨y.toNat, y.toNat_lt⟩
  simpa using this
theorem uref_walk (l s : List UInt8) (hl : l.length < 9223372036854775807) (hs : s = l.take (3 * 64)) (j k : Nat) (at' v : Int) (hj : j < s.length) (hidx : (at'.tmod (s.length : Int) + (s.length : Int)).tmod (s.length : Int) = (j : Int)) (hb1 : -200 ≤ at'.tmod (s.length : Int)) (hb2 : at'.tmod (s.length : Int) ≤ 200) (hv : bits .and .i64 v 3 = (k : Int)) (hk : k < 4) (w : World) :
    Calls Tryz.prog 5 #[.string (bs l), .int .i64 at', .int .i64 v] w fun e w' => e = .returned (.bool true) ∧ Below w.heap.size w w' := by
  have hsz := bs_size l
  have hss := bs_size s
  have hsl : s.length ≤ 192 := by rw [hs, List.length_take]; omega
  have Hfew := Lib.hid (fun W => (show Calls Tryz.prog 8 #[.string (bs l), .int .i64 3] W fun e w' => e = .returned (.string (bs s)) ∧ w' = W from by rw [hs]; exact few_any l 3 (by decide) W))
  have Hb := Lib.hid (fun W => (show Calls Tryz.prog 9 #[.int .i64 3, .int .i64 5, .string (bs wFirst)] W _ from begun_any 3 5 (by decide) (by decide) (by decide) (by decide) wFirst (by decide) W))
  obtain ⟨y, hy⟩ : ∃ y, y = s[j] := ⟨_, rfl⟩
  obtain ⟨z, hz⟩ : ∃ z, z = y ^^^ 1 := ⟨_, rfl⟩
  obtain ⟨t, ht⟩ : ∃ t, t = s.set j z := ⟨_, rfl⟩
  have htl : t.length = s.length := by rw [ht, List.length_set]
  have Htx1 := Lib.hid (fun W => (show Calls Tryz.prog 15 #[.int .i64 (1 + (k : Int)), .string (bs s)] W fun e w' => e = .returned (.string (bs (manT ⟨1 + k, s.length, shaL s⟩))) ∧ Below W.heap.size W w' from by
    have := ltext_any (1 + k) s (by omega) (by omega) W
    rwa [show (((1 + k : Nat)) : Int) = 1 + (k : Int) by omega] at this))
  have Htx2 := Lib.hid (fun W => (show Calls Tryz.prog 15 #[.int .i64 6, .string (bs t)] W fun e w' => e = .returned (.string (bs (manT ⟨6, t.length, shaL t⟩))) ∧ Below W.heap.size W w' from ltext_any 6 t (by decide) (by omega) W))
  have Hm1 := Lib.hid (show Man.Ok ⟨1 + k, s.length, shaL s⟩ from ⟨by show 1 ≤ 1 + k; omega, by show 1 + k ≤ 1073741824; omega, by show s.length ≤ _; omega, rfl⟩)
  obtain ⟨m, hm⟩ : ∃ m : Man, m = ⟨6, t.length, shaL t⟩ := ⟨_, rfl⟩
  have hmo : m.Ok := by rw [hm]; exact ⟨by show 1 ≤ 6; omega, by show 6 ≤ 1073741824; omega, by show t.length ≤ _; omega, rfl⟩
  have hmn : m.n = s.length := by rw [hm]; exact htl
  have Hold := Lib.hid (fun W u a (h : UsAt W u a rf0) => (show Calls Tryz.prog 14 #[.pointer (some ⟨u, 0, none⟩), .string (bs (manT ⟨1 + k, s.length, shaL s⟩))] W fun e w' => e = .returned (.int .i64 210) ∧ UsAt w' u a rf0 ∧ Mut (only a) W w' from by
    have := uinst_any h rf0_inv.ok (manT ⟨1 + k, s.length, shaL s⟩) (manT_len _ (by show 1 + k < _; omega) (by show s.length < _; omega) rfl) (fun m hm => parse_ok hm)
    rw [US.install_old Hm1.out (by show s.length ≤ 192; omega) rfl (show 1 + k < 5 by omega)] at this
    exact this))
  rw [← hm] at Htx2
  have HM := Lib.hid hm
  have Hmo := Lib.hid hmo
  have Hmn := Lib.hid hmn
  have Hls := Lib.hid hsl
  have Htl := Lib.hid htl
  clear hs hm hmo hmn htl
  go_enter Tryz.func5, Tryz.ntmps5
  go_wp2_with fail
  refine (Hfew.out _).mono ?_
  rintro e w1 ⟨rfl, rfl⟩
  go_wp2_with fail
  refine (Hb.out _).mono ?_
  rintro e w2 ⟨u, a, rfl, hu, ha, hU, hB⟩
  have H2 := Lib.hid (show UsAt w2 u a rf0 from hU)
  have HB2 := Lib.hid hB
  clear hU hB
  go_wp2_with fail
  refine (awake_any _).mono ?_
  rintro e w3 ⟨rfl, hB⟩
  have HB3 := Lib.hid (HB2.out.trans (hB.mono HB2.out.size))
  have H3 := Lib.hid (H2.out.below hB)
  clear hB
  have hconv := Lib.run_convert_string_bytes (P := Tryz.prog) w3 9 60 5 (bs s) Tryz.underlying9 Tryz.underlying60 Tryz.underlying5
  have hbw : Below w3.heap.size w3 (Lib.bytesWorld w3 5 (bs s)) := bytes_below (Below.refl w3.heap.size w3) (Nat.le_refl _) 5 (bs s)
  have hF := RowF.of_string w3 s w3.heap.size (Nat.le_refl _) (by omega)
  obtain ⟨wb, hwbe⟩ : ∃ wb, wb = Lib.bytesWorld w3 5 (bs s) := ⟨_, rfl⟩
  obtain ⟨gb, hgb⟩ : ∃ gb, gb = w3.heap.size := ⟨_, rfl⟩
  obtain ⟨cb, hcb⟩ : ∃ cb, cb = grownCap w3 (bs s).size 0 5 := ⟨_, rfl⟩
  have ha3 : a < gb := by rw [hgb]; exact H3.out.al
  have hu3 : u < gb := by rw [hgb]; exact H3.out.ul
  have hwg : w1.heap.size ≤ gb := by rw [hgb]; exact HB3.out.size
  rw [← hwbe, ← hgb, ← hcb, hss] at hconv hF
  rw [← hwbe] at hbw
  have HB4 := Lib.hid (HB3.out.trans (hbw.mono HB3.out.size))
  have H4 := Lib.hid (H3.out.below hbw)
  have k0 := hF.at0 j hj
  have k1 := hF.free j hj
  rw [← hy] at k0
  unfold encB at k0
  have kx : bits .xor .u8 (y.toNat : Int) 1 = (z.toNat : Int) := by rw [hz]; exact xor_one y
  have HF := Lib.hid (show RowF (wb.setCell ⟨gb, j, none⟩ (.int .u8 (z.toNat : Int))) gb (.slice (some ⟨gb, 0, none⟩) s.length cb) t from by rw [ht]; exact hF.put j z)
  have HB5 := Lib.hid (HB4.out.setCell (p := ⟨gb, j, none⟩) hwg (.int .u8 (z.toNat : Int)))
  have H5 := Lib.hid (H3.out.below (hbw.setCell (p := ⟨gb, j, none⟩) (by rw [hgb]; exact Nat.le_refl _) (.int .u8 (z.toNat : Int))))
  have hjI : (j : Int) < (s.length : Int) := by omega
  have hn0 : ¬ (s.length : Int) = 0 := by omega
  clear hF hbw hwbe hgb hcb hj hy ht hz
  go_wp2_with fail
  refine (Htx1.out _).mono ?_
  rintro e w6 ⟨rfl, hB⟩
  have HB6 := Lib.hid (HB5.out.trans (hB.mono HB5.out.size))
  have H6 := Lib.hid (H5.out.below hB)
  have HF6 := Lib.hid (HF.out.below hB)
  clear hB k0 k1 kx H2 H3 H4 HB2 HB3 HB4
  go_wp2_with fail
  refine (Hold.out _ u a H6.out).mono ?_
  rintro e w7 ⟨rfl, hU, hm⟩
  have HB7 := Lib.hid (hm.over HB6.out ha)
  have H7 := Lib.hid hU
  have HF7 := Lib.hid (HF6.out.kept hm (fun k hk e => by have : k = a := e; omega))
  have hcv := HF7.out.text Htl.out
  clear hU hm
  go_wp2_with fail
  refine (Htx2.out _).mono ?_
  rintro e w8 ⟨rfl, hB⟩
  have HB8 := Lib.hid (HB7.out.trans (hB.mono HB7.out.size))
  have H8 := Lib.hid (H7.out.below hB)
  have HF8 := Lib.hid (HF7.out.below hB)
  clear hB hcv H5 H6 HB5 HB6 HF HF6
  go_wp2_with fail
  refine (mid_inst s H8.out rf0_inv Hmo.out (by have := Hmn.out; have := Hls.out; show m.n ≤ 192; omega) rfl (by rw [HM.out]; show 5 ≤ 6; omega)).mono ?_
  rintro e w9 ⟨rfl, hU, hI, hm⟩
  have H9 := Lib.hid hU
  have I9 := Lib.hid hI
  have HB9 := Lib.hid (hm.over HB8.out ha)
  have HF9 := Lib.hid (HF8.out.kept hm (fun k hk e => by have : k = a := e; omega))
  clear hU hI hm H7 H8 HB7 HB8 HF7 HF8
  go_wp2_with fail
  go_loopg [13] (s.length + 64) (fun g' v13 wx => ∃ q : Nat, v13 = .int .i64 (q : Int) ∧ q + g' = s.length + 64 ∧ q % 64 = 0 ∧ UsAt wx u a (rf0.mid m s (min q s.length)) ∧ (rf0.mid m s (min q s.length)).Inv ∧ Below w1.heap.size w1 wx ∧ RowF wx gb (.slice (some ⟨gb, 0, none⟩) s.length cb) t)
  case atStart => exact ⟨0, rfl, by omega, rfl, by rw [Nat.zero_min]; exact H9.out, by rw [Nat.zero_min]; exact I9.out, HB9.out, HF9.out⟩
  case round =>
    obtain ⟨q, rfl, hg, hq, hU, hI, hB, hF⟩ := hrel
    have HU := Lib.hid hU
    have HI := Lib.hid hI
    have HB := Lib.hid hB
    have HF := Lib.hid hF
    clear hU hI hB hF
    by_cases hqs : q < s.length
    · obtain ⟨E, hE⟩ : ∃ E, E = min (q + 64) s.length := ⟨_, rfl⟩
      have hmin : min ((q : Int) + 64) (s.length : Int) = (E : Int) := by omega
      have hx : (bs s).extract q E = bs ((s.drop q).take (E - q)) := by rw [bs_extract, List.drop_take]
      have hE1 : (q : Int) ≤ (E : Int) := by omega
      have hE2 : (E : Int) ≤ (s.length : Int) := by omega
      have hqi : (q : Int) < (s.length : Int) := by omega
      have e0 : min q s.length = q := by omega
      have eE : min (q + 64) s.length = q + (E - q) := by omega
      have hch := mid_chunk (W := wr) (u := u) (a := a) (x := rf0) (m := m) (s := s) (g := q) (n := E - q) (by have := HU.out; rw [e0] at this; exact this) (by have := HI.out; rw [e0] at this; exact this) Hmn.out (by omega) (by omega) (by omega) (by omega) (by omega)
      rw [← eE] at hch
      have Hch := Lib.hid hch
      have Hgq := Lib.hid hg
      have Hqq := Lib.hid hq
      clear hE e0 eE hch hg hq hqs
      go_wp2_with fail
      refine Hch.out.mono ?_
      rintro e w10 ⟨rfl, hU, hI, hm⟩
      have HU2 := Lib.hid hU
      have HI2 := Lib.hid hI
      have HB2 := Lib.hid (hm.over HB.out ha)
      have HF2 := Lib.hid (HF.out.kept hm (fun k hk e => by have : k = a := e; omega))
      clear hU hI hm
      go_wp2_with fail
      go_roundg (s.length - q)
      case measure => have := Hgq.out; omega
      case rel => exact ⟨q + 64, rfl, by have := Hgq.out; omega, by have := Hqq.out; omega, HU2.out, HI2.out, HB2.out, HF2.out⟩
    · have e0 : min q s.length = s.length := by omega
      have hqi : ¬ (q : Int) < (s.length : Int) := by omega
      rw [e0] at HU HI
      clear e0 hg hq hqs
      have Hcmp := Lib.hid (fun W => refSum_any s (by have := Hls.out; omega) W)
      have Hcmp2 := Lib.hid (fun W => refSum_any t (by have := Hls.out; have := Htl.out; omega) W)
      by_cases hsha : shaL s = shaL t
      · have hfin := ufin_any HU.out HI.out.ok HI.out.inst
        rw [US.fin_mid Hmn.out (by rw [HM.out]; exact hsha) rfl (by rw [HM.out]; show 5 ≤ 6; omega)] at hfin
        have Hfin := Lib.hid hfin
        rw [← hsha] at Hcmp2
        clear hfin hsha
        go_wp2_with fail
        refine Hfin.out.mono ?_
        rintro e w10 ⟨rfl, hU, hm⟩
        have HB2 := Lib.hid (hm.over HB.out ha)
        have HF2 := Lib.hid (HF.out.kept hm (fun k hk e => by have : k = a := e; omega))
        clear hU hm
        have hcv : ∀ n : LaterOf w10, (convert 60 9 (.slice (some ⟨gb, 0, none⟩) s.length cb)).run Tryz.prog (later w10 n) = .ok (.string (bs t)) (later w10 n) := fun n => (HF2.out.below (later_below n)).text Htl.out
        go_wp2_with fail
        refine wp_region_later (by kernel_rfl) (by kernel_rfl) ?_
        repeat go_big_quiet_step (fail)
        go_big_quiet_step (with_reducible exact calls_later (fun w1 _ => Hcmp.out w1) _)
        repeat go_big_quiet_step (fail)
        go_big_quiet_step (with_reducible exact calls_later (fun w1 _ => Hcmp2.out w1) _)
        repeat go_big_quiet_step (fail)
        refine wpQuiet_nil ?_
        intro w11 hw11
        have hb11 := later_of hw11
        have HB3 := Lib.hid (HB2.out.trans (hb11.mono HB2.out.size))
        clear hw11 hb11 hcv
        go_wp2_with fail
        go_ret
        exact ⟨rfl, HB3.out⟩
      · have hfin := ufin_any HU.out HI.out.ok HI.out.inst
        rw [US.fin_mid_bad Hmn.out (by rw [HM.out]; exact hsha)] at hfin
        have Hfin := Lib.hid hfin
        have hne : ((bs (shaL s)).toList == (bs (shaL t)).toList) = false := by
          rw [bs_toList, bs_toList]
          simpa using hsha
        clear hfin hsha
        go_wp2_with fail
        refine Hfin.out.mono ?_
        rintro e w10 ⟨rfl, hU, hm⟩
        have HU2 := Lib.hid hU
        have HB2 := Lib.hid (hm.over HB.out ha)
        have HF2 := Lib.hid (HF.out.kept hm (fun k hk e => by have : k = a := e; omega))
        clear hU hm
        have hcv : ∀ n : LaterOf w10, (convert 60 9 (.slice (some ⟨gb, 0, none⟩) s.length cb)).run Tryz.prog (later w10 n) = .ok (.string (bs t)) (later w10 n) := fun n => (HF2.out.below (later_below n)).text Htl.out
        go_wp2_with fail
        refine wp_region_later (by kernel_rfl) (by kernel_rfl) ?_
        repeat go_big_quiet_step (fail)
        go_big_quiet_step (with_reducible exact calls_later (fun w1 _ => Hcmp.out w1) _)
        repeat go_big_quiet_step (fail)
        go_big_quiet_step (with_reducible exact calls_later (fun w1 _ => Hcmp2.out w1) _)
        repeat go_big_quiet_step (fail)
        refine wpQuiet_nil ?_
        intro w11 hw11
        have hb11 := later_of hw11
        have HB3 := Lib.hid (HB2.out.trans (hb11.mono HB2.out.size))
        have HU3 := Lib.hid (HU2.out.below hb11)
        clear hw11 hb11 hcv
        go_wp2_with fail
        obtain ⟨x4, hx4⟩ : ∃ x, x = rf0.mid m s s.length := ⟨_, rfl⟩
        have i4 := HI.out
        have u4 := HU3.out
        rw [← hx4] at i4 u4
        have him : x4.im false = wFirst := by rw [hx4]; rfl
        have hma : x4.m false = some ⟨5, wFirst.length, shaL wFirst⟩ := by rw [hx4]; rfl
        have hbs : x4.b.start = x4.b := by rw [hx4]; rfl
        have hba : x4.b.ac = false := by rw [hx4]; rfl
        have hsw : x4.b.switch 1 = .error 212 := by rw [hx4]; rfl
        have hs4 := uswitch_any u4 i4.ok 1
        rw [hsw] at hs4
        have Hs4 := Lib.hid (show Calls Tryz.prog 18 #[.pointer (some ⟨u, 0, none⟩), .int .i64 1] w11 fun e w' => e = .returned (.int .i64 212) ∧ UsAt w' u a x4 ∧ Mut (only a) w11 w' from hs4)
        have Hst := Lib.hid (fun W (h : UsAt W u a x4) => (show Calls Tryz.prog 19 #[.pointer (some ⟨u, 0, none⟩)] W fun e w' => e = .returned (.tuple #[.agg #[.int .i64 0, .int .i64 5], .int .i64 0]) ∧ UsAt w' u a { x4 with b := x4.b.start } ∧ Mut (only a) W w' from by
          have := ustart_any h i4.ok ⟨5, wFirst.length, shaL wFirst⟩ (by rw [hbs, hba]; exact hma) ⟨by decide, by decide, by decide, rfl⟩ (by rw [hbs, hba, him]) (by rw [hbs, hba, him])
          rw [show x4.b.start.ac = false by rw [hbs, hba]] at this
          exact this))
        have heq : ∀ W, (binOp .eql 54 (.agg #[.int .i64 0, .int .i64 5]) (.agg #[.int .i64 0, .int .i64 5])).run Tryz.prog W = .ok (.bool true) W := fun W => by kernel_rfl
        clear hs4 hsw hbs hba him hma i4 u4 hx4
        refine Hs4.out.mono ?_
        rintro e w12 ⟨rfl, hU, hm⟩
        have H12 := Lib.hid hU
        have HB12 := Lib.hid (hm.over HB3.out ha)
        clear hU hm
        go_wp2_with fail
        refine (Hst.out _ H12.out).mono ?_
        rintro e w13 ⟨rfl, _, hm⟩
        have HB13 := Lib.hid (hm.over HB12.out ha)
        have HB14 := Lib.hid (HB13.out.alloc HB13.out.size (.cells #[.int .i64 0, .int .i64 5] 54))
        clear hm
        go_wp2_with fail
        go_ret
        exact ⟨rfl, HB14.out⟩
theorem uref_none (l : List UInt8) (hl : l = []) (at' v : Int) (w : World) : Calls Tryz.prog 5 #[.string (bs l), .int .i64 at', .int .i64 v] w fun e w' => e = .returned (.bool true) ∧ Below w.heap.size w w' := by
  subst hl
  have Hfew := Lib.hid (fun W => (show Calls Tryz.prog 8 #[.string (bs []), .int .i64 3] W fun e w' => e = .returned (.string (bs [])) ∧ w' = W from few_any [] 3 (by decide) W))
  have Hb := Lib.hid (fun W => (show Calls Tryz.prog 9 #[.int .i64 3, .int .i64 5, .string (bs wFirst)] W _ from begun_any 3 5 (by decide) (by decide) (by decide) (by decide) wFirst (by decide) W))
  have hss := bs_size []
  go_enter Tryz.func5, Tryz.ntmps5
  go_wp2_with fail
  refine (Hfew.out _).mono ?_
  rintro e w1 ⟨rfl, rfl⟩
  go_wp2_with fail
  refine (Hb.out _).mono ?_
  rintro e w2 ⟨u, a, rfl, hu, ha, hU, hB⟩
  have HB2 := Lib.hid hB
  clear hU hB
  go_wp2_with fail
  refine (awake_any _).mono ?_
  rintro e w3 ⟨rfl, hB⟩
  have HB3 := Lib.hid (HB2.out.trans (hB.mono HB2.out.size))
  clear hB
  go_wp2_with fail
  refine (awake_any _).mono ?_
  rintro e w4 ⟨rfl, hB⟩
  have HB4 := Lib.hid (HB3.out.trans (hB.mono HB3.out.size))
  clear hB
  go_wp2_with fail
  go_ret
  exact ⟨rfl, HB4.out⟩
theorem uref_any (l : List UInt8) (at' v : Int) (hl : l.length < 9223372036854775807) (w : World) : Calls Tryz.prog 5 #[.string (bs l), .int .i64 at', .int .i64 v] w fun e w' => e = .returned (.bool true) ∧ Below w.heap.size w w' := by
  have hq : bits .and .i64 v 3 = v % 4 := and_powD 2 (by decide) 3 v rfl
  rcases Nat.eq_zero_or_pos l.length with h0 | h0
  · exact uref_none l (List.length_eq_zero_iff.1 h0) at' v w
  · obtain ⟨s, hs⟩ : ∃ s, s = l.take (3 * 64) := ⟨_, rfl⟩
    have hsl : 0 < s.length ∧ s.length ≤ 192 := by rw [hs, List.length_take]; omega
    obtain ⟨j, hj, e1, e2, e3⟩ := tmod_in at' s.length hsl.1 (by omega)
    exact uref_walk l s hl hs j (v % 4).toNat at' v hj e1 e2 e3 (by rw [hq]; omega) (by omega) w
end Go.Proofs.YticnmogeknlmeaaGreatDoor.B
