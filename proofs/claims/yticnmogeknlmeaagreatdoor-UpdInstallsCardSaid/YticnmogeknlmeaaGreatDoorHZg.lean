/- Helper: the law UpdInstalls; walked. No condition. -/
import Derived.Test.YticnmogeknlmeaaGreatDoorHZe
namespace Go.Proofs.YticnmogeknlmeaaGreatDoor.B
open Go.RowKit Go.Maps Go.Proofs.YticnmogeknlmeaaGreatDoorW.PrintWords Go.Proofs.YticnmogeknlmeaaGreatDoor.Later
set_option maxRecDepth 100000
set_option maxHeartbeats 8000000
theorem at_int {w : World} {A : Option Addr} {n : Nat} {xs : List Int} (h : Kd.C (Kd.int .i64) w A n xs) (i : Nat) (h1 : i < n) :
    ∃ ad : Addr, A = some ad ∧ w.cell? (ad.add i) = some (.int .i64 (xs.getD i 0)) := by
  obtain ⟨ad, c, e, _, hK, hc0⟩ := Kd.C_get h 0 (i : Int) (by omega) (by omega)
  refine ⟨ad, e, ?_⟩
  have hc : ∀ j u, c[j]? = some u → w.cell? (ad.add (((i : Int)).toNat * 1 + j)) = some u := hc0
  obtain rfl := hK
  have := hc 0 _ rfl
  simpa using this
def rf1 : US := first 3 1 ⟨1, wFirst.length, shaL wFirst⟩ wFirst
theorem rf1_inv : rf1.Inv := first_inv (pg := 3) (v := 1) (s := wFirst) (by decide) (by decide) (by decide) (by decide) (by decide)
/-- How long the next piece is. -/
theorem piece (rest N : Nat) (h0 : 0 < rest) (hN : 64 ≤ N ∧ N ≤ 256 ∧ N % 64 = 0) : ∃ n, n = min N rest ∧ 0 < n ∧ n ≤ rest ∧ n ≤ 256 ∧ (n % 64 = 0 ∨ n = rest) := ⟨min N rest, rfl, by omega, by omega, by omega, by omega⟩
theorem uinstalls_walk (l s : List UInt8) (hl : l.length < 9223372036854775807) (hs : s = l.take (3 * 64)) (A : Option Addr) (cap : Nat) (c : List Int) (hcl : c.length ≤ cap) (w : World) (hC : Kd.C (Kd.int .i64) w A c.length c) :
    Calls Tryz.prog 4 #[.string (bs l), .slice A c.length cap] w fun e w' => e = .returned (.bool true) ∧ Below w.heap.size w w' := by
  have hsz := bs_size l
  have hss := bs_size s
  have hsl : s.length ≤ 192 := by rw [hs, List.length_take]; omega
  have Hfew := Lib.hid (fun W => (show Calls Tryz.prog 8 #[.string (bs l), .int .i64 3] W fun e w' => e = .returned (.string (bs s)) ∧ w' = W from by rw [hs]; exact few_any l 3 (by decide) W))
  have Hb := Lib.hid (fun W => (show Calls Tryz.prog 9 #[.int .i64 3, .int .i64 1, .string (bs wFirst)] W _ from begun_any 3 1 (by decide) (by decide) (by decide) (by decide) wFirst (by decide) W))
  have Htext := Lib.hid (fun W => ltext_any 2 s (by decide) (by omega) W)
  obtain ⟨m, hm⟩ : ∃ m : Man, m = ⟨2, s.length, shaL s⟩ := ⟨_, rfl⟩
  rw [← hm] at Htext
  have hmo : m.Ok := by rw [hm]; exact ⟨by show 1 ≤ 2; omega, by show 2 ≤ 1073741824; omega, by show s.length ≤ _; omega, rfl⟩
  have hmn : m.n = s.length := by rw [hm]
  have HM := Lib.hid hm
  have Hmo := Lib.hid hmo
  have Hmn := Lib.hid hmn
  have HC := Lib.hid hC
  clear hs hm hmo hmn hC
  go_enter Tryz.func4, Tryz.ntmps4
  go_wp2_with fail
  refine (Hfew.out _).mono ?_
  rintro e w1 ⟨rfl, rfl⟩
  go_wp2_with fail
  refine (Hb.out _).mono ?_
  rintro e w2 ⟨u, a, rfl, hu, ha, hU, hB⟩
  have H2 := Lib.hid (show UsAt w2 u a rf1 from hU)
  have HB2 := Lib.hid hB
  clear hU hB
  go_wp2_with fail
  refine (awake_any _).mono ?_
  rintro e w3 ⟨rfl, hB⟩
  have HB3 := Lib.hid (HB2.out.trans (hB.mono HB2.out.size))
  have H3 := Lib.hid (H2.out.below hB)
  clear hB
  go_wp2_with fail
  refine (Htext.out _).mono ?_
  rintro e w4 ⟨rfl, hB⟩
  have HB4 := Lib.hid (HB3.out.trans (hB.mono HB3.out.size))
  have H4 := Lib.hid (H3.out.below hB)
  clear hB
  go_wp2_with fail
  refine (mid_inst s H4.out rf1_inv Hmo.out (by have := Hmn.out; show m.n ≤ 192; omega) rfl (by rw [HM.out]; show 1 ≤ 2; omega)).mono ?_
  rintro e w5 ⟨rfl, hU, hI, hm⟩
  have H5 := Lib.hid hU
  have I5 := Lib.hid hI
  have HB5 := Lib.hid (hm.over HB4.out ha)
  clear hU hI hm H2 H3 H4 HB2 HB3 HB4
  go_wp2_with fail
  go_loopg [9, 10, 11] s.length (fun g' v9 v10 v11 wx => ∃ g i : Nat, v9 = .int .i64 (g : Int) ∧ v10 = .int .i64 (i : Int) ∧ g + g' = s.length ∧ i ≤ g ∧ UsAt wx u a (rf1.mid m s g) ∧ (rf1.mid m s g).Inv ∧ Below w1.heap.size w1 wx)
  case atStart => exact ⟨0, 0, rfl, rfl, by omega, by omega, H5.out, I5.out, HB5.out⟩
  case round =>
    obtain ⟨g, i, rfl, rfl, hg, hi, hU, hI, hB⟩ := hrel
    have HU := Lib.hid hU
    have HI := Lib.hid hI
    have HB := Lib.hid hB
    clear hU hI hB
    by_cases hgs : g < s.length
    · obtain ⟨R, hR⟩ : ∃ R, R = s.length - g := ⟨_, rfl⟩
      have hRi : (s.length : Int) - (g : Int) = (R : Int) := by omega
      have hgR : (g : Int) + (R : Int) = (s.length : Int) := by omega
      have hgs' : (g : Int) < (s.length : Int) := by omega
      obtain ⟨N, hN⟩ : ∃ N : Nat, (i < c.length ∧ ∃ kk : Nat, kk < 4 ∧ bits .and .i64 (c.getD i 0) 3 = (kk : Int) ∧ (1 + (kk : Int)) * 64 = (N : Int)) ∨ (¬ i < c.length ∧ N = 256) := by
        by_cases hi : i < c.length
        · refine ⟨(1 + (c.getD i 0 % 4).toNat) * 64, .inl ⟨hi, (c.getD i 0 % 4).toNat, by omega, ?_, by omega⟩⟩
          rw [and_powD 2 (by decide) 3 _ rfl]
          omega
        · exact ⟨256, .inr ⟨hi, rfl⟩⟩
      have hN64 : 64 ≤ N ∧ N ≤ 256 ∧ N % 64 = 0 := by
        rcases hN with ⟨_, kk, h1, _, h2⟩ | ⟨_, rfl⟩
        · omega
        · omega
      have hnx : ∀ n : Nat, 0 < n → n ≤ R → n ≤ 256 → (n % 64 = 0 ∨ n = R) → Calls Tryz.prog 16 #[.pointer (some ⟨u, 0, none⟩), .int .i64 (g : Int), .string (bs ((s.drop g).take n))] wr fun e w' => e = .returned (.int .i64 0) ∧ UsAt w' u a (rf1.mid m s (g + n)) ∧ (rf1.mid m s (g + n)).Inv ∧ Mut (only a) wr w' :=
        fun n h1 h2 h3 h4 => mid_chunk HU.out HI.out Hmn.out (by omega) h1 (by omega) h3 (by omega)
      have HF := Lib.hid (And.intro hg (And.intro hi (And.intro hR hN64)))
      have hx1 : (bs s).extract g s.length = bs ((s.drop g).take R) := by rw [bs_extract, List.drop_take, hR]
      have hx2 : (bs s).extract g (g + N) = bs ((s.drop g).take N) := by rw [bs_extract, List.drop_take, Nat.add_sub_cancel_left]
      have Hnx := Lib.hid hnx
      have hil : (i : Int) ≤ 200 := by omega
      clear hnx hgs hg hi hR
      rcases hN with ⟨hi, kk, hk4, hband, hkN⟩ | ⟨hi, rfl⟩
      · obtain ⟨ad, rfl, hcell⟩ := at_int (Kd.C_below HC.out HB.out) i hi
        have hii : (i : Int) < (c.length : Int) := by omega
        have hcap : (c.length : Int) ≤ (cap : Int) := by omega
        obtain ⟨q, hq⟩ : ∃ q, q = c.getD i 0 := ⟨_, rfl⟩
        rw [← hq] at hcell hband
        clear hq
        by_cases hRN : R < N
        · have hlt : (R : Int) < (N : Int) := by omega
          go_wp2_with fail
          refine (Hnx.out R (by have := HF.out; omega) (by have := HF.out; omega) (by have := HF.out; omega) (by have := HF.out; omega)).mono ?_
          rintro e w6 ⟨rfl, hU, hI, hm⟩
          rw [show g + R = s.length by have := HF.out; omega] at hU hI
          have HU2 := Lib.hid hU
          have HI2 := Lib.hid hI
          have HB2 := Lib.hid (hm.over HB.out ha)
          clear hU hI hm
          go_wp2_with fail
          go_roundg 0
          case measure => have := HF.out; omega
          case rel => exact ⟨s.length, i + 1, rfl, rfl, by omega, by have := HF.out; omega, HU2.out, HI2.out, HB2.out⟩
        · have hlt : ¬ (R : Int) < (N : Int) := by omega
          go_wp2_with fail
          refine (Hnx.out N (by have := HF.out; omega) (by have := HF.out; omega) (by have := HF.out; omega) (by have := HF.out; omega)).mono ?_
          rintro e w6 ⟨rfl, hU, hI, hm⟩
          have HU2 := Lib.hid hU
          have HI2 := Lib.hid hI
          have HB2 := Lib.hid (hm.over HB.out ha)
          clear hU hI hm
          go_wp2_with fail
          go_roundg (s.length - (g + N))
          case measure => have := HF.out; omega
          case rel => exact ⟨g + N, i + 1, rfl, rfl, by have := HF.out; omega, by have := HF.out; omega, HU2.out, HI2.out, HB2.out⟩
      · have hii : ¬ (i : Int) < (c.length : Int) := by omega
        have e256 : ((256 : Nat) : Int) = 256 := rfl
        by_cases hRN : R < 256
        · have hlt : (R : Int) < (256 : Int) := by omega
          go_wp2_with fail
          refine (Hnx.out R (by have := HF.out; omega) (by have := HF.out; omega) (by have := HF.out; omega) (by have := HF.out; omega)).mono ?_
          rintro e w6 ⟨rfl, hU, hI, hm⟩
          rw [show g + R = s.length by have := HF.out; omega] at hU hI
          have HU2 := Lib.hid hU
          have HI2 := Lib.hid hI
          have HB2 := Lib.hid (hm.over HB.out ha)
          clear hU hI hm
          go_wp2_with fail
          go_roundg 0
          case measure => have := HF.out; omega
          case rel => exact ⟨s.length, i + 1, rfl, rfl, by omega, by have := HF.out; omega, HU2.out, HI2.out, HB2.out⟩
        · have hlt : ¬ (R : Int) < (256 : Int) := by omega
          go_wp2_with fail
          refine (Hnx.out 256 (by have := HF.out; omega) (by have := HF.out; omega) (by have := HF.out; omega) (by have := HF.out; omega)).mono ?_
          rintro e w6 ⟨rfl, hU, hI, hm⟩
          have HU2 := Lib.hid hU
          have HI2 := Lib.hid hI
          have HB2 := Lib.hid (hm.over HB.out ha)
          clear hU hI hm
          go_wp2_with fail
          go_roundg (s.length - (g + 256))
          case measure => have := HF.out; omega
          case rel => exact ⟨g + 256, i + 1, rfl, rfl, by have := HF.out; omega, by have := HF.out; omega, HU2.out, HI2.out, HB2.out⟩
    · obtain rfl : g = s.length := by omega
      have hfin := ufin_any HU.out HI.out.ok HI.out.inst
      have hifin := HI.out.finalize
      obtain ⟨x5, hx5⟩ : ∃ x : US, x = { rf1 with im := setB rf1.im (!rf1.b.ac) s, m := setB rf1.m (!rf1.b.ac) (some m), b := { rf1.b with gd := true, vo := m.v }, pn := none } := ⟨_, rfl⟩
      rw [US.fin_mid Hmn.out (by rw [HM.out]) rfl (by rw [HM.out]; show 1 ≤ 2; omega), ← hx5] at hfin hifin
      have hmv : m.v = 2 := by rw [HM.out]
      have hb5 : x5.b = ⟨false, false, true, 0, 1, 1, 2⟩ := by rw [hx5, ← hmv]; rfl
      have hm5 : x5.m true = some m := by rw [hx5]; rfl
      have hi5 : x5.im true = s := by rw [hx5]; rfl
      have hi5f : x5.im false = wFirst := by rw [hx5]; rfl
      have hp5 : x5.pg = 3 := by rw [hx5]; rfl
      have hsw : x5.b.switch 1 = .ok ⟨true, true, true, 1, 1, 2, 1⟩ := by rw [hb5]; rfl
      have i6 := hifin.switch 1
      rw [hsw] at i6
      obtain ⟨x6, hx6⟩ : ∃ x : US, x = { x5 with b := ⟨true, true, true, 1, 1, 2, 1⟩ } := ⟨_, rfl⟩
      have i6 : x6.Inv := by rw [hx6]; exact i6
      have hs6 : x6.b.start = ⟨true, true, true, 0, 1, 2, 1⟩ := by rw [hx6]; rfl
      have hm6 : x6.m true = some m := by rw [hx6]; exact hm5
      have hi6 : x6.im true = s := by rw [hx6]; exact hi5
      have hi6f : x6.im false = wFirst := by rw [hx6]; exact hi5f
      have hp6 : x6.pg = 3 := by rw [hx6]; exact hp5
      have Hfin := Lib.hid (show Calls Tryz.prog 17 #[.pointer (some ⟨u, 0, none⟩)] wr fun e w' => e = .returned (.int .i64 0) ∧ UsAt w' u a x5 ∧ Mut (only a) wr w' from hfin)
      have Hsw := Lib.hid (fun W (h : UsAt W u a x5) => (show Calls Tryz.prog 18 #[.pointer (some ⟨u, 0, none⟩), .int .i64 1] W fun e w' => e = .returned (.int .i64 0) ∧ UsAt w' u a x6 ∧ Mut (only a) W w' from by
        have := uswitch_any h hifin.ok 1
        rw [hsw] at this
        rw [hx6]
        exact this))
      have Hst := Lib.hid (fun W (h : UsAt W u a x6) => (show Calls Tryz.prog 19 #[.pointer (some ⟨u, 0, none⟩)] W fun e w' => e = .returned (.tuple #[.agg #[.int .i64 1, .int .i64 2], .int .i64 0]) ∧ UsAt w' u a { x6 with b := x6.b.start } ∧ Mut (only a) W w' from by
        have := ustart_any h i6.ok m (by rw [hs6]; exact hm6) Hmo.out (by rw [hs6, hi6, Hmn.out]) (by rw [hs6, hi6, HM.out])
        rw [hmv, hs6] at this
        rw [hs6]
        exact this))
      have Himg := Lib.hid (fun W (h : UsAt W u a { x6 with b := x6.b.start }) => (show Calls Tryz.prog 20 #[.pointer (some ⟨u, 0, none⟩), .int .i64 1, .int .i64 (s.length : Int)] W fun e w' => e = .returned (.tuple #[.string (bs s), .int .i64 0]) ∧ Below W.heap.size W w' from
        uimg_any h true s hi6 (by show s.length ≤ 64 * x6.pg; omega) (by show x6.pg ≤ 1024; omega)))
      have Hold := Lib.hid (fun W (h : UsAt W u a { x6 with b := x6.b.start }) => (show Calls Tryz.prog 20 #[.pointer (some ⟨u, 0, none⟩), .int .i64 0, .int .i64 5] W fun e w' => e = .returned (.tuple #[.string (bs wFirst), .int .i64 0]) ∧ Below W.heap.size W w' from
        uimg_any h false wFirst hi6f (by show 5 ≤ 64 * x6.pg; omega) (by show x6.pg ≤ 1024; omega)))
      have heq : ∀ W, (binOp .eql 54 (.agg #[.int .i64 1, .int .i64 2]) (.agg #[.int .i64 1, .int .i64 2])).run Tryz.prog W = .ok (.bool true) W := fun W => by kernel_rfl
      have hgs : ¬ (s.length : Int) < (s.length : Int) := by omega
      clear hfin hifin hx5 hmv hb5 hm5 hi5 hi5f hp5 hsw i6 hx6 hs6 hm6 hi6 hi6f hp6 hg hi
      go_wp2_with fail
      refine Hfin.out.mono ?_
      rintro e w6 ⟨rfl, hU, hm⟩
      have H6 := Lib.hid hU
      have HB6 := Lib.hid (hm.over HB.out ha)
      clear hU hm
      go_wp2_with fail
      refine (Hsw.out _ H6.out).mono ?_
      rintro e w7 ⟨rfl, hU, hm⟩
      have H7 := Lib.hid hU
      have HB7 := Lib.hid (hm.over HB6.out ha)
      clear hU hm
      go_wp2_with fail
      refine (Hst.out _ H7.out).mono ?_
      rintro e w8 ⟨rfl, hU, hm⟩
      have HB8 := Lib.hid (hm.over HB7.out ha)
      have hba : Below w8.heap.size w8 (w8.alloc (.cells #[.int .i64 1, .int .i64 2] 54)) := (Below.refl _ _).alloc (Nat.le_refl _) _
      have H9 := Lib.hid (UsAt.below hU hba)
      have HB9 := Lib.hid (HB8.out.trans (hba.mono HB8.out.size))
      have K9 := Lib.hid (Blk.new w8 #[.int .i64 1, .int .i64 2] 54)
      clear hU hm hba
      go_wp2_with fail
      refine (Himg.out _ H9.out).mono ?_
      rintro e w10 ⟨rfl, hB⟩
      have HB10 := Lib.hid (HB9.out.trans (hB.mono HB9.out.size))
      have H10 := Lib.hid (H9.out.below hB)
      have K10 := Lib.hid (K9.out.below hB)
      clear hB
      go_wp2_with fail
      refine (Hold.out _ H10.out).mono ?_
      rintro e w11 ⟨rfl, hB⟩
      have HB11 := Lib.hid (HB10.out.trans (hB.mono HB10.out.size))
      have k0 : w11.cell? ⟨w8.heap.size, 0, none⟩ = some (.int .i64 1) := (K10.out.below hB).cell 0
      have k1 : w11.cell? ⟨w8.heap.size, 1, none⟩ = some (.int .i64 2) := (K10.out.below hB).cell 1
      have hfl : (bs wFirst).toList = [102, 105, 114, 115, 116] := bs_toList _
      clear hB
      go_wp2_with fail
      go_ret
      exact ⟨rfl, HB11.out⟩
theorem uinstalls_any (l : List UInt8) (hl : l.length < 9223372036854775807) (A : Option Addr) (cap : Nat) (c : List Int) (hcl : c.length ≤ cap) (w : World) (hC : Kd.C (Kd.int .i64) w A c.length c) :
    Calls Tryz.prog 4 #[.string (bs l), .slice A c.length cap] w fun e w' => e = .returned (.bool true) ∧ Below w.heap.size w w' := uinstalls_walk l _ hl rfl A cap c hcl w hC
end Go.Proofs.YticnmogeknlmeaaGreatDoor.B
