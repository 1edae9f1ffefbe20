/- Helper: the law's own test that there is something; walked. what no updater answers; slots that are there already; how many pages. Walked. No condition. -/
import Derived.Test.YticnmogeknlmeaaGreatDoorN30
namespace Go.Proofs.YticnmogeknlmeaaGreatDoor.B
open Go.RowKit Go.Maps Go.Proofs.YticnmogeknlmeaaGreatDoorW.PrintWords Go.Proofs.YticnmogeknlmeaaGreatDoor.Later
set_option maxRecDepth 100000
set_option maxHeartbeats 4000000
def wOld : List UInt8 := [111, 108, 100]
def wNew : List UInt8 := [110, 101, 119]
def US.put1 (x : US) (v : Nat) (s : List UInt8) : US := { x with m := setB x.m (!x.b.ac) (some ⟨v, s.length, shaL s⟩), im := setB x.im (!x.b.ac) s, b := { x.b with gd := true, vo := v }, pn := none }
theorem setB_twice {α : Type} (f : Bool → α) (s : Bool) (v v' : α) : setB (setB f s v) s v' = setB f s v' := by
  funext t
  unfold setB
  split <;> rfl
theorem inst_run {x : US} (ht : x.b.tr = false) (v : Nat) (hl : x.b.ls ≤ v) (h1 : 1 ≤ v) (h2 : v ≤ 1073741824) (s : List UInt8) (h0 : s ≠ []) (hs : s.length ≤ 64) (hp : 1 ≤ x.pg) :
    ∃ x1 x2, x.install (manT ⟨v, s.length, shaL s⟩) = (0, x1) ∧ x1.chunk 0 s = (0, x2) ∧ x2.finalize = (0, x.put1 v s) := by
  obtain ⟨d, hd⟩ : ∃ d, d = shaL s := ⟨_, rfl⟩
  have hm : (⟨v, s.length, d⟩ : Man).Ok := ⟨h1, h2, by show s.length ≤ _; omega, by rw [hd]; rfl⟩
  unfold US.put1
  rw [← hd]
  have e1 := US.install_eq (x := x) (m := ⟨v, s.length, d⟩) hm (by show s.length ≤ 64 * x.pg; omega) ht hl
  obtain ⟨x1, hx1⟩ : ∃ x1 : US, x1 = { x with im := setB x.im (!x.b.ac) [], b := { x.b with gd := false, vo := v }, pn := some (⟨v, s.length, d⟩, 0) } := ⟨_, rfl⟩
  have e2 := US.chunk_eq (x := x1) (m := ⟨v, s.length, d⟩) (g := 0) (s := s) (by rw [hx1]) h0 (Nat.le_refl _) (by omega) (.inr rfl)
  obtain ⟨x2, hx2⟩ : ∃ x2 : US, x2 = { x1 with im := setB x1.im (!x1.b.ac) (x1.im (!x1.b.ac) ++ s), pn := some (⟨v, s.length, d⟩, 0 + s.length) } := ⟨_, rfl⟩
  have him : x2.im = setB x.im (!x.b.ac) s := by
    rw [hx2, hx1]
    show setB (setB x.im (!x.b.ac) []) (!x.b.ac) (setB x.im (!x.b.ac) [] (!x.b.ac) ++ s) = _
    rw [setB_twice, setB_same]
    rfl
  have hb : x2.b = { x.b with gd := false, vo := v } := by rw [hx2, hx1]
  have e3 := US.fin_eq (x := x2) (m := ⟨v, s.length, d⟩) (by rw [hx2, Nat.zero_add]) (by rw [him, hb]; show shaL (setB x.im (!x.b.ac) s (!x.b.ac)) = d; rw [setB_same, hd]) (by rw [hb]; exact ht) (by rw [hb]; exact hl)
  refine ⟨x1, x2, by rw [hx1]; exact e1, by rw [hx2]; exact e2, e3.trans ?_⟩
  rw [him, hb, show x2.m = x.m by rw [hx2, hx1], show x2.pg = x.pg by rw [hx2, hx1]]
def aw0 : US := first 3 1 ⟨1, wOld.length, shaL wOld⟩ wOld
def aw3 : US := aw0.put1 2 wNew
theorem aw0_inv : aw0.Inv := first_inv (pg := 3) (v := 1) (s := wOld) (by decide) (by decide) (by decide) (by decide) (by decide)
theorem awake_any (w : World) : Calls Tryz.prog 10 #[] w fun e w' => e = .returned (.bool true) ∧ Below w.heap.size w w' := by
  obtain ⟨x1, x2, e1, e2, e3⟩ := inst_run (x := aw0) rfl 2 (by decide) (by decide) (by decide) wNew (by decide) (by decide) (by decide)
  have e3 : x2.finalize = (0, aw3) := e3
  have i1 : x1.Inv := by have := aw0_inv.install (manT ⟨2, wNew.length, shaL wNew⟩); rw [e1] at this; exact this
  have i2 : x2.Inv := by have := i1.chunk 0 wNew; rw [e2] at this; exact this
  have i3 : aw3.Inv := by have := i2.finalize; rw [e3] at this; exact this
  have e4 : aw3.b.switch 1 = .ok ⟨true, true, true, 1, 1, 2, 1⟩ := Bt.switch_eq (b := aw3.b) (by decide) (by decide) rfl rfl (by decide)
  have i4 : ({ aw3 with b := ⟨true, true, true, 1, 1, 2, 1⟩ } : US).Inv := by have := i3.switch 1; rw [e4] at this; exact this
  have i5 := i4.started
  obtain ⟨x4, hx4⟩ : ∃ x, x = ({ aw3 with b := ⟨true, true, true, 1, 1, 2, 1⟩ } : US) := ⟨_, rfl⟩
  have hs4 : x4.b.start = ⟨true, true, true, 0, 1, 2, 1⟩ := by rw [hx4]; rfl
  have hm4 : x4.m x4.b.start.ac = some ⟨2, 3, shaL wNew⟩ := by rw [hs4, hx4]; rfl
  have hi4 : (x4.im x4.b.start.ac) = wNew := by rw [hs4, hx4]; rfl
  rw [← hx4] at i4 i5
  have Hb := Lib.hid (fun W => begun_any 3 1 (by decide) (by decide) (by decide) (by decide) wOld (by decide) W)
  have Hi := Lib.hid (fun W u a (h : UsAt W u a aw0) => linst_any h aw0_inv 2 (by decide) wNew (by decide) (by decide) e1 e2 e3)
  have Hs := Lib.hid (fun W u a (h : UsAt W u a aw3) => (show Calls Tryz.prog 18 #[.pointer (some ⟨u, 0, none⟩), .int .i64 1] W fun e w' => e = .returned (.int .i64 0) ∧ UsAt w' u a x4 ∧ Mut (only a) W w' from by
    have := uswitch_any h i3.ok 1
    rw [e4] at this
    rw [hx4]
    exact this))
  have Ht := Lib.hid (fun W u a (h : UsAt W u a x4) => (show Calls Tryz.prog 19 #[.pointer (some ⟨u, 0, none⟩)] W fun e w' => e = .returned (.tuple #[.agg #[.int .i64 1, .int .i64 2], .int .i64 0]) ∧ UsAt w' u a { x4 with b := x4.b.start } ∧ Mut (only a) W w' from by
    have := ustart_any h i4.ok ⟨2, 3, shaL wNew⟩ hm4 ⟨by decide, by decide, by decide, rfl⟩ (by rw [hi4]; rfl) (by rw [hi4])
    rw [hs4] at this
    rw [hs4]
    exact this))
  have Hc := Lib.hid (fun W u a (h : UsAt W u a { x4 with b := x4.b.start }) => (show Calls Tryz.prog 27 #[.pointer (some ⟨u, 0, none⟩)] W fun e w' => e = .returned (.int .i64 0) ∧ Mut (only a) W w' from by
    refine (uconfirm_any h i5.ok).mono ?_
    rintro e w' ⟨rfl, _, hm⟩
    refine ⟨?_, hm⟩
    show Ending.returned (.int .i64 (BR.E x4.b.start.confirm)) = _
    rw [hs4]
    rfl))
  clear e1 e2 e3 e4 i1 i2 i3 i4 i5 hm4 hi4 hs4 hx4
  go_enter Tryz.func10, Tryz.ntmps10
  go_wp2_with fail
  refine (Hb.out _).mono ?_
  rintro e w1 ⟨u, a, rfl, hu, ha, hU, hB⟩
  have H1 := Lib.hid (show UsAt w1 u a aw0 from hU)
  have HB1 := Lib.hid hB
  clear hU hB
  go_wp2_with fail
  refine (Hi.out _ u a H1.out).mono ?_
  rintro e w2 ⟨rfl, hU, hm⟩
  have H2 := Lib.hid hU
  have HB2 := Lib.hid (hm.over HB1.out ha)
  clear hU hm
  go_wp2_with fail
  refine (Hs.out _ u a H2.out).mono ?_
  rintro e w3 ⟨rfl, hU, hm⟩
  have H3 := Lib.hid hU
  have HB3 := Lib.hid (hm.over HB2.out ha)
  clear hU hm
  go_wp2_with fail
  refine (Ht.out _ u a H3.out).mono ?_
  rintro e w4 ⟨rfl, hU, hm⟩
  have H4 := Lib.hid hU
  have HB4 := Lib.hid (hm.over HB3.out ha)
  clear hU hm
  go_wp2_with fail
  have HB5 := Lib.hid (HB4.out.alloc HB4.out.size (.cells #[.int .i64 1, .int .i64 2] 54))
  refine (Hc.out _ u a (H4.out.below ((Below.refl _ _).alloc (Nat.le_refl _) _))).mono ?_
  rintro e w5 ⟨rfl, hm⟩
  have HB6 := Lib.hid (hm.over HB5.out ha)
  clear hm
  go_wp2_with fail
  go_ret
  exact ⟨rfl, HB6.out⟩
end Go.Proofs.YticnmogeknlmeaaGreatDoor.B
namespace Go.Proofs.YticnmogeknlmeaaGreatDoor.B
open Go.RowKit Go.Maps Go.Proofs.YticnmogeknlmeaaGreatDoorW.PrintWords Go.Proofs.YticnmogeknlmeaaGreatDoor.Later
set_option maxRecDepth 100000
set_option maxHeartbeats 4000000
end Go.Proofs.YticnmogeknlmeaaGreatDoor.B
