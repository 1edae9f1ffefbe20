/- Helper: the law's own test that there is something; walked. what no updater answers; slots that are there already; how many pages. Walked. No condition. -/
import Derived.Test.YticnmogeknlmeaaGreatDoorQ30
namespace Go.Proofs.YticnmogeknlmeaaGreatDoor.B
open Go.RowKit Go.Maps Go.Proofs.YticnmogeknlmeaaGreatDoorW.PrintWords Go.Proofs.YticnmogeknlmeaaGreatDoor.Later
set_option maxRecDepth 100000
set_option maxHeartbeats 4000000
def wOld : List UInt8 := [111, 108, 100]
def wNew : List UInt8 := [110, 101, 119]
def US.put1 (x : US) (v : Nat) (s : List UInt8) : US := { x with m := setB x.m (!x.b.ac) (some ⟨v, s.length, shaL s⟩), im := setB x.im (!x.b.ac) s, b := { x.b with gd := true, vo := v }, pn := none }
theorem setB_twice {α : Type} (f : Bool → α) (s : Bool) (v v' : α) : setB (setB f s v) s v' = setB f s v' := by
  funext t
  unfold setB
  split <;> rfl
theorem inst_run {x : US} (ht : x.b.tr = false) (v : Nat) (hl : x.b.ls ≤ v) (h1 : 1 ≤ v) (h2 : v ≤ 1073741824) (s : List UInt8) (h0 : s ≠ []) (hs : s.length ≤ 64) (hp : 1 ≤ x.pg) :
    ∃ x1 x2, x.install (manT ⟨v, s.length, shaL s⟩) = (0, x1) ∧ x1.chunk 0 s = (0, x2) ∧ x2.finalize = (0, x.put1 v s) := by
  obtain ⟨d, hd⟩ : ∃ d, d = shaL s := ⟨_, rfl⟩
  have hm : (⟨v, s.length, d⟩ : Man).Ok := ⟨h1, h2, by show s.length ≤ _; omega, by rw [hd]; rfl⟩
  unfold US.put1
  rw [← hd]
  have e1 := US.install_eq (x := x) (m := ⟨v, s.length, d⟩) hm (by show s.length ≤ 64 * x.pg; omega) ht hl
  obtain ⟨x1, hx1⟩ : ∃ x1 : US, x1 = { x with im := setB x.im (!x.b.ac) [], b := { x.b with gd := false, vo := v }, pn := some (⟨v, s.length, d⟩, 0) } := ⟨_, rfl⟩
  have e2 := US.chunk_eq (x := x1) (m := ⟨v, s.length, d⟩) (g := 0) (s := s) (by rw [hx1]) h0 (Nat.le_refl _) (by omega) (.inr rfl)
  obtain ⟨x2, hx2⟩ : ∃ x2 : US, x2 = { x1 with im := setB x1.im (!x1.b.ac) (x1.im (!x1.b.ac) ++ s), pn := some (⟨v, s.length, d⟩, 0 + s.length) } := ⟨_, rfl⟩
  have him : x2.im = setB x.im (!x.b.ac) s := by
    rw [hx2, hx1]
    show setB (setB x.im (!x.b.ac) []) (!x.b.ac) (setB x.im (!x.b.ac) [] (!x.b.ac) ++ s) = _
    rw [setB_twice, setB_same]
    rfl
  have hb : x2.b = { x.b with gd := false, vo := v } := by rw [hx2, hx1]
  have e3 := US.fin_eq (x := x2) (m := ⟨v, s.length, d⟩) (by rw [hx2, Nat.zero_add]) (by rw [him, hb]; show shaL (setB x.im (!x.b.ac) s (!x.b.ac)) = d; rw [setB_same, hd]) (by rw [hb]; exact ht) (by rw [hb]; exact hl)
  refine ⟨x1, x2, by rw [hx1]; exact e1, by rw [hx2]; exact e2, e3.trans ?_⟩
  rw [him, hb, show x2.m = x.m by rw [hx2, hx1], show x2.pg = x.pg by rw [hx2, hx1]]
def aw0 : US := first 3 1 ⟨1, wOld.length, shaL wOld⟩ wOld
def aw3 : US := aw0.put1 2 wNew
theorem aw0_inv : aw0.Inv := first_inv (pg := 3) (v := 1) (s := wOld) (by decide) (by decide) (by decide) (by decide) (by decide)
theorem awake_any (w : World) : Calls Tryz.prog 10 #[] w fun e w' => e = .returned (.bool true) ∧ Below w.heap.size w w' := by
  obtain ⟨x1, x2, e1, e2, e3⟩ := inst_run (x := aw0) rfl 2 (by decide) (by decide) (by decide) wNew (by decide) (by decide) (by decide)
  have e3 : x2.finalize = (0, aw3) := e3
  have i1 : x1.Inv := by have := aw0_inv.install (manT ⟨2, wNew.length, shaL wNew⟩); rw [e1] at this; exact this
  have i2 : x2.Inv := by have := i1.chunk 0 wNew; rw [e2] at this; exact this
  have i3 : aw3.Inv := by have := i2.finalize; rw [e3] at this; exact this
  have e4 : aw3.b.switch 1 = .ok ⟨true, true, true, 1, 1, 2, 1⟩ := Bt.switch_eq (b := aw3.b) (by decide) (by decide) rfl rfl (by decide)
  have i4 : ({ aw3 with b := ⟨true, true, true, 1, 1, 2, 1⟩ } : US).Inv := by have := i3.switch 1; rw [e4] at this; exact this
  have i5 := i4.started
  obtain ⟨x4, hx4⟩ : ∃ x, x = ({ aw3 with b := ⟨true, true, true, 1, 1, 2, 1⟩ } : US) := ⟨_, rfl⟩
  have hs4 : x4.b.start = ⟨true, true, true, 0, 1, 2, 1⟩ := by rw [hx4]; rfl
  have hm4 : x4.m x4.b.start.ac = some ⟨2, 3, shaL wNew⟩ := by rw [hs4, hx4]; rfl
  have hi4 : (x4.im x4.b.start.ac) = wNew := by rw [hs4, hx4]; rfl
  rw [← hx4] at i4 i5
  have Hb := Lib.hid (fun W => begun_any 3 1 (by decide) (by decide) (by decide) (by decide) wOld (by decide) W)
  have Hi := Lib.hid (fun W u a (h : UsAt W u a aw0) => linst_any h aw0_inv 2 (by decide) wNew (by decide) (by decide) e1 e2 e3)
  have Hs := Lib.hid (fun W u a (h : UsAt W u a aw3) => (show Calls Tryz.prog 18 #[.pointer (some ⟨u, 0, none⟩), .int .i64 1] W fun e w' => e = .returned (.int .i64 0) ∧ UsAt w' u a x4 ∧ Mut (only a) W w' from by
    have := uswitch_any h i3.ok 1
    rw [e4] at this
    rw [hx4]
    exact this))
  have Ht := Lib.hid (fun W u a (h : UsAt W u a x4) => (show Calls Tryz.prog 19 #[.pointer (some ⟨u, 0, none⟩)] W fun e w' => e = .returned (.tuple #[.agg #[.int .i64 1, .int .i64 2], .int .i64 0]) ∧ UsAt w' u a { x4 with b := x4.b.start } ∧ Mut (only a) W w' from by
    have := ustart_any h i4.ok ⟨2, 3, shaL wNew⟩ hm4 ⟨by decide, by decide, by decide, rfl⟩ (by rw [hi4]; rfl) (by rw [hi4])
    rw [hs4] at this
    rw [hs4]
    exact this))
  have Hc := Lib.hid (fun W u a (h : UsAt W u a { x4 with b := x4.b.start }) => (show Calls Tryz.prog 27 #[.pointer (some ⟨u, 0, none⟩)] W fun e w' => e = .returned (.int .i64 0) ∧ Mut (only a) W w' from by
    refine (uconfirm_any h i5.ok).mono ?_
    rintro e w' ⟨rfl, _, hm⟩
    refine ⟨?_, hm⟩
    show Ending.returned (.int .i64 (BR.E x4.b.start.confirm)) = _
    rw [hs4]
    rfl))
  clear e1 e2 e3 e4 i1 i2 i3 i4 i5 hm4 hi4 hs4 hx4
  go_enter Tryz.func10, Tryz.ntmps10
  go_wp2_with fail
  refine (Hb.out _).mono ?_
  rintro e w1 ⟨u, a, rfl, hu, ha, hU, hB⟩
  have H1 := Lib.hid (show UsAt w1 u a aw0 from hU)
  have HB1 := Lib.hid hB
  clear hU hB
  go_wp2_with fail
  refine (Hi.out _ u a H1.out).mono ?_
  rintro e w2 ⟨rfl, hU, hm⟩
  have H2 := Lib.hid hU
  have HB2 := Lib.hid (hm.over HB1.out ha)
  clear hU hm
  go_wp2_with fail
  refine (Hs.out _ u a H2.out).mono ?_
  rintro e w3 ⟨rfl, hU, hm⟩
  have H3 := Lib.hid hU
  have HB3 := Lib.hid (hm.over HB2.out ha)
  clear hU hm
  go_wp2_with fail
  refine (Ht.out _ u a H3.out).mono ?_
  rintro e w4 ⟨rfl, hU, hm⟩
  have H4 := Lib.hid hU
  have HB4 := Lib.hid (hm.over HB3.out ha)
  clear hU hm
  go_wp2_with fail
  have HB5 := Lib.hid (HB4.out.alloc HB4.out.size (.cells #[.int .i64 1, .int .i64 2] 54))
  refine (Hc.out _ u a (H4.out.below ((Below.refl _ _).alloc (Nat.le_refl _) _))).mono ?_
  rintro e w5 ⟨rfl, hm⟩
  have HB6 := Lib.hid (hm.over HB5.out ha)
  clear hm
  go_wp2_with fail
  go_ret
  exact ⟨rfl, HB6.out⟩
end Go.Proofs.YticnmogeknlmeaaGreatDoor.B
namespace Go.Proofs.YticnmogeknlmeaaGreatDoor.B
open Go.RowKit Go.Maps Go.Proofs.YticnmogeknlmeaaGreatDoorW.PrintWords Go.Proofs.YticnmogeknlmeaaGreatDoor.Later
set_option maxRecDepth 100000
set_option maxHeartbeats 4000000
theorem all_twice {w : World} {u a : Nat} {x : US} (h : UsAt w u a x) (hx : x.Ok) {l : List Ch} (hl : l.length < 999) {A : Option Addr} {c : Nat} (hC : Kd.C chK w A (makeCh 1 x.pg :: l).length (makeCh 1 x.pg :: l)) (hg : ∀ ad, A = some ad → ad.block ≠ a) :
    Calls Tryz.prog 39 #[.pointer (some ⟨u, 0, none⟩), .slice A (makeCh 1 x.pg :: l).length c] w fun e w' => e = .returned (.int .i64 80) ∧ Mut (only a) w w' := by
  obtain ⟨M, h1, h2, h3⟩ := h
  have hpg := hx.pg0; have hpg1 := hx.pg1
  have hd : doT M.now (makeCh 1 x.pg).r = (80, M.now) := by
    rw [h3.now]
    rfl
  have hmay : (makeCh 1 x.pg).r.may = true := by
    show Rc.may ⟨4, 1, 0, 0, 0, x.pg⟩ = true
    have h3 : decide ((0 : Int) ≤ (x.pg : Int)) = true := decide_eq_true (by omega)
    have h4 : decide ((x.pg : Int) ≤ 1024) = true := decide_eq_true (by omega)
    have h6 : decide ((x.pg : Int) < 1) = false := decide_eq_false (by omega)
    simp [Rc.may, fieldsOf, inAll, Rc.get, Rc.bad, Rc.spaces, zeroAll, Rc.zero, h4, h6]
  have hst : chStep M.begun M.now (makeCh 1 x.pg) = (80, M.begun) := by
    rw [show chStep M.begun M.now (makeCh 1 x.pg) = if (makeCh 1 x.pg).r.may then mStep M.begun (doT M.now (makeCh 1 x.pg).r) else (1, M.begun) from rfl, hmay, if_pos rfl, hd]
    rfl
  have hR : RunOk M.begun (makeCh 1 x.pg :: l) := by
    refine ⟨M.now, ⟨rfl, Int.le_refl 0, .inr (.inr (.inl rfl)), i64_small (show 0 ≤ (1 : Int) ∧ (1 : Int) ≤ 2000 by decide), i64_small (show 0 ≤ (0 : Int) ∧ (0 : Int) ≤ 2000 by decide), Nat.zero_lt_of_lt (show 0 < 4294967296 by decide), ?_, fun e => ?_⟩, fun e => ?_⟩
    · rw [show treeOf M.now (makeCh 1 x.pg) = doT M.now (makeCh 1 x.pg).r from rfl, hd]
      show WfT M.now
      rw [h3.now]
      exact hx.tri.wf
    · rw [show treeOf M.now (makeCh 1 x.pg) = doT M.now (makeCh 1 x.pg).r from rfl, hd] at e
      exact absurd (show (80 : Int) = 0 from e) (by decide)
    · rw [hst] at e
      exact absurd (show (80 : Int) = 0 from e) (by decide)
  have hall : (allM M (makeCh 1 x.pg :: l)).1 = 80 := by
    unfold allM
    have e : runM { M with opn := some M.now, many := 0 } (makeCh 1 x.pg :: l) = (80, M.begun) := by
      show runM M.begun _ = _
      rw [runM_cons (T := M.now) rfl, hst]
      rfl
    rw [e]
    rfl
  refine (all_t M (makeCh 1 x.pg :: l) (by rw [List.length_cons]; omega) a u x.pg 64 A c w h2 h3.opn h1 hC hg hR).mono ?_
  rintro e w' ⟨rfl, _, k2⟩
  rw [hall]
  exact ⟨rfl, k2⟩
theorem prov_twice {w : World} {u a : Nat} {x : US} (h : UsAt w u a x) (hx : x.Ok) (v : Nat) (hv : 1 ≤ v ∧ v ≤ 1073741824) (s : List UInt8) (hl : s.length ≤ 64 * x.pg) : Calls Tryz.prog 24 #[.pointer (some ⟨u, 0, none⟩), .int .i64 (v : Int), .string (bs s)] w fun e w' => e = .returned (.int .i64 80) ∧ Mut (only a) w w' := by
  have hpg := hx.pg1
  have hck : manOk v s.length (shaL s) = true := by
    unfold manOk
    rw [decide_eq_true (show 1 ≤ (v : Int) by omega), decide_eq_true (show (v : Int) ≤ 1073741824 by omega), decide_eq_true (show (0 : Int) ≤ (s.length : Int) by omega), decide_eq_true (show (s.length : Int) ≤ 1048576 by omega)]
    rfl
  have Hof := Lib.hid (fun W => of_any v s (by omega) W)
  have hmc := fun W => mcheck_any v s.length (shaL s) W
  rw [hck] at hmc
  have Hmc := Lib.hid hmc
  have H := Lib.hid h
  have hal := h.al
  have HAL := Lib.hid hal
  have hsz := bs_size s
  have hd : decide ((x.pg : Int) * 64 < (s.length : Int)) = false := decide_eq_false (by omega)
  have Hx := Lib.hid hx
  clear hmc h hal hck hv hx
  go_enter Tryz.func24, Tryz.ntmps24
  go_wp2_with fail
  refine (Hof.out _).mono ?_
  rintro e w1 ⟨rfl, hB⟩
  have HB1 := Lib.hid hB
  have H1 := Lib.hid (H.out.below hB)
  clear hB
  unfold ManV
  go_wp2_with fail
  refine (Hmc.out _).mono ?_
  rintro e w2 ⟨rfl, hB⟩
  obtain ⟨hB, k3⟩ := laid hB
  have HB2 := Lib.hid (HB1.out.trans (hB.mono HB1.out.size))
  have H2 := Lib.hid (H1.out.below hB)
  have u1 := H2.out.c1
  have u2 := H2.out.c2
  clear hB k3
  go_wp2_with fail
  go_quiet (fail)
  have hbn := below_drewN (Below.refl w2.heap.size w2) nq
  have hn := H2.out.below hbn
  have hbw := HB2.out.trans (hbn.mono HB2.out.size)
  revert hn hbw
  generalize World.drewN w2 nq = W
  intro hn hbw
  have HW := Lib.hid hn
  have HBW := Lib.hid hbw
  clear hbn hn hbw u1 u2 hd
  have p1 := fun n => later_cell HW.out.c1 n
  go_wp2_with fail
  refine wp_region_later_skip (.pointer (some ⟨u, 0, none⟩)) 11 (by kernel_rfl) (by kernel_rfl) (by decide) (by kernel_rfl) (by kernel_rfl) (by kernel_rfl) (by kernel_rfl) (by kernel_rfl) (fun _ _ _ h => h) (Or.inl ⟨by rfl, fun W => rfl⟩) ?_
  simp only [List.take_succ_cons, List.take_zero, List.drop_succ_cons, List.drop_zero, Act.put, List.setIfInBounds_toArray, List.set_cons_zero, List.set_cons_succ]
  repeat go_big_quiet_step (fail)
  go_big_quiet_step (with_reducible exact calls_later (fun w1 _ => made_c 1 (x.pg : Int) w1) _)
  repeat go_big_quiet_step (fail)
  go_big_quiet_step (with_reducible exact calls_later (fun w1 _ => made_c 2 (x.pg : Int) w1) _)
  repeat go_big_quiet_step (fail)
  go_big_quiet_step (with_reducible exact calls_later (fun w1 _ => made_c 3 4 w1) _)
  repeat go_big_quiet_step (fail)
  refine wpQuiet_nil ?_
  intro w5 hw5
  have hb5 := later_of hw5
  have HB5 := Lib.hid (HBW.out.trans (hb5.mono HBW.out.size))
  have H5 := Lib.hid (HW.out.below hb5)
  clear hw5 hb5 p1
  go_wp2_with fail
  have hal := HAL.out
  have hs5 := HB5.out.size
  have hC := chC_of (l := [makeCh 1 x.pg, makeCh 2 x.pg, makeCh 3 4]) (Blk.new w5 (cellsC [makeCh 1 x.pg, makeCh 2 x.pg, makeCh 3 4]).toArray 102) (by simp)
  have hba : Below w5.heap.size w5 (w5.alloc (.cells (cellsC [makeCh 1 x.pg, makeCh 2 x.pg, makeCh 3 4]).toArray 102)) := (Below.refl _ _).alloc (Nat.le_refl _) _
  have hB6 := HB5.out.trans (hba.mono hs5)
  refine (all_twice (H5.out.below hba) Hx.out (l := [makeCh 2 x.pg, makeCh 3 4]) (by simp) hC (fun ad e => by cases e; show w5.heap.size ≠ a; omega)).mono ?_
  rintro e w7 ⟨rfl, hm⟩
  have HM := Lib.hid ((Mut.of_below (S := only a) hB6).trans hm)
  clear hm hC hB6 hba hs5
  go_wp2_with fail
  go_ret
  exact ⟨rfl, HM.out⟩
theorem nil_boot (w : World) : Calls Tryz.prog 23 #[.pointer none] w fun e w' => e = .returned (.tuple #[.agg #[.int .i64 0, .bool false, .int .i64 0, .int .i64 0, .int .i64 0, .int .i64 0, .bool false, .bool false], .int .i64 1]) ∧ Below w.heap.size w w' := by
  go_enter Tryz.func23, Tryz.ntmps23
  go_wp2_with fail
  refine bodyPost_ret (results_ct (p := 2) (u := 3) (ty := 32) (by kernel_rfl) _ _ w.heap.size 32 #[.int .i64 0, .bool false, .int .i64 0, .int .i64 0, .int .i64 0, .int .i64 0, .bool false, .bool false] _ rfl (Blk.new w _ 32) Tryz.underlying32 rfl (by kernel_rfl)) rfl ?_
  exact ⟨rfl, (Below.refl _ _).alloc (Nat.le_refl _) _⟩
theorem nil_prog (w : World) : Calls Tryz.prog 25 #[.pointer none] w fun e w' => e = .returned (.tuple #[.agg #[.int .i64 0, .int .i64 0, .string { data := #[] }, .int .i64 0], .int .i64 1]) ∧ Below w.heap.size w w' := by
  go_enter Tryz.func25, Tryz.ntmps25
  go_wp2_with fail
  refine bodyPost_ret (results_ct (p := 2) (u := 3) (ty := 71) (by kernel_rfl) _ _ w.heap.size 71 #[.int .i64 0, .int .i64 0, .string { data := #[] }, .int .i64 0] _ rfl (Blk.new w _ 71) Tryz.underlying71 rfl (by kernel_rfl)) rfl ?_
  exact ⟨rfl, (Below.refl _ _).alloc (Nat.le_refl _) _⟩
theorem nil_man (w : World) : Calls Tryz.prog 26 #[.pointer none, .int .i64 0] w fun e w' => e = .returned (.tuple #[.agg #[.int .i64 0, .int .i64 0, .string { data := #[] }], .int .i64 1]) ∧ Below w.heap.size w w' := by
  go_enter Tryz.func26, Tryz.ntmps26
  go_wp2_with fail
  refine bodyPost_ret (results_ct (p := 4) (u := 5) (ty := 34) (by kernel_rfl) _ _ w.heap.size 34 #[.int .i64 0, .int .i64 0, .string { data := #[] }] _ rfl (Blk.new w _ 34) Tryz.underlying34 rfl (by kernel_rfl)) rfl ?_
  exact ⟨rfl, (Below.refl _ _).alloc (Nat.le_refl _) _⟩
theorem nil_img (w : World) : Calls Tryz.prog 20 #[.pointer none, .int .i64 0, .int .i64 0] w fun e w' => e = .returned (.tuple #[.string { data := #[] }, .int .i64 1]) ∧ w' = w := by
  go_enter Tryz.func20, Tryz.ntmps20
  go_wp2_with fail
  go_ret2
  exact ⟨rfl, rfl⟩
theorem nil_inst (w : World) (s : List UInt8) : Calls Tryz.prog 14 #[.pointer none, .string (bs s)] w fun e w' => e = .returned (.int .i64 1) ∧ Below w.heap.size w w' := by
  go_enter Tryz.func14, Tryz.ntmps14
  go_wp2_with fail
  refine (nil_boot _).mono ?_
  rintro e w1 ⟨rfl, hB⟩
  have HB1 := Lib.hid hB
  clear hB
  go_wp2_with fail
  go_ret
  exact ⟨rfl, HB1.out.alloc HB1.out.size _⟩
theorem nil_chunk (w : World) (s : List UInt8) : Calls Tryz.prog 16 #[.pointer none, .int .i64 0, .string (bs s)] w fun e w' => e = .returned (.int .i64 1) ∧ Below w.heap.size w w' := by
  go_enter Tryz.func16, Tryz.ntmps16
  go_wp2_with fail
  refine (nil_boot _).mono ?_
  rintro e w1 ⟨rfl, hB⟩
  have HB1 := Lib.hid hB
  clear hB
  go_wp2_with fail
  go_ret
  exact ⟨rfl, HB1.out.alloc HB1.out.size _⟩
theorem nil_fin (w : World) : Calls Tryz.prog 17 #[.pointer none] w fun e w' => e = .returned (.int .i64 1) ∧ Below w.heap.size w w' := by
  go_enter Tryz.func17, Tryz.ntmps17
  go_wp2_with fail
  refine (nil_boot _).mono ?_
  rintro e w1 ⟨rfl, hB⟩
  have HB1 := Lib.hid hB
  clear hB
  go_wp2_with fail
  go_ret
  exact ⟨rfl, HB1.out.alloc HB1.out.size _⟩
theorem nil_start (w : World) : Calls Tryz.prog 19 #[.pointer none] w fun e w' => e = .returned (.tuple #[.agg #[.int .i64 0, .int .i64 0], .int .i64 1]) ∧ Below w.heap.size w w' := by
  have K0 := Lib.hid (Blk.new w #[.int .i64 0, .int .i64 0] 54)
  have HA := Lib.hid ((Below.refl w.heap.size w).alloc (Nat.le_refl _) (.cells #[.int .i64 0, .int .i64 0] 54))
  go_enter Tryz.func19, Tryz.ntmps19
  go_wp2_with fail
  refine (nil_boot _).mono ?_
  rintro e w1 ⟨rfl, hB⟩
  have HB1 := Lib.hid (HA.out.trans (hB.mono (by simp)))
  have k1 := K0.out.below hB
  have hba : Below w1.heap.size w1 (w1.alloc (.cells #[.int .i64 0, .bool false, .int .i64 0, .int .i64 0, .int .i64 0, .int .i64 0, .bool false, .bool false] 32)) := (Below.refl _ _).alloc (Nat.le_refl _) _
  have k2 := k1.below hba
  have KK := Lib.hid k2
  have fb := fun i => Blk.free k2 i
  have b0 : (w1.alloc (.cells #[.int .i64 0, .bool false, .int .i64 0, .int .i64 0, .int .i64 0, .int .i64 0, .bool false, .bool false] 32)).cell? ⟨w.heap.size, 0, none⟩ = some (.int .i64 0) := k2.cell 0
  have b1 : (w1.alloc (.cells #[.int .i64 0, .bool false, .int .i64 0, .int .i64 0, .int .i64 0, .int .i64 0, .bool false, .bool false] 32)).cell? ⟨w.heap.size, 1, none⟩ = some (.int .i64 0) := k2.cell 1
  clear hB k1 k2 hba
  go_wp2_with fail
  have h3 := Blk.set (Blk.set KK.out 0 (.int .i64 0)) 1 (.int .i64 0)
  have hB := HB1.out.alloc HB1.out.size (.cells #[.int .i64 0, .bool false, .int .i64 0, .int .i64 0, .int .i64 0, .int .i64 0, .bool false, .bool false] 32)
  refine bodyPost_ret (results_ct (p := 2) (u := 3) (ty := 54) (by kernel_rfl) _ _ w.heap.size 54 #[.int .i64 0, .int .i64 0] _ rfl h3 Tryz.underlying54 rfl (by kernel_rfl)) rfl ?_
  exact ⟨rfl, (hB.setCell (Nat.le_refl _) _).setCell (Nat.le_refl _) _⟩
theorem nil_switch (w : World) : Calls Tryz.prog 18 #[.pointer none, .int .i64 1] w fun e w' => e = .returned (.int .i64 1) ∧ Below w.heap.size w w' := by
  go_enter Tryz.func18, Tryz.ntmps18
  go_wp2_with fail
  refine (nil_boot _).mono ?_
  rintro e w1 ⟨rfl, hB⟩
  have HB1 := Lib.hid hB
  clear hB
  go_wp2_with fail
  go_ret
  exact ⟨rfl, HB1.out.alloc HB1.out.size _⟩
theorem nil_confirm (w : World) : Calls Tryz.prog 27 #[.pointer none] w fun e w' => e = .returned (.int .i64 1) ∧ Below w.heap.size w w' := by
  go_enter Tryz.func27, Tryz.ntmps27
  go_wp2_with fail
  refine (nil_boot _).mono ?_
  rintro e w1 ⟨rfl, hB⟩
  have HB1 := Lib.hid hB
  clear hB
  go_wp2_with fail
  go_ret
  exact ⟨rfl, HB1.out.alloc HB1.out.size _⟩
theorem pages_any (n : Nat) (hn : n ≤ 4095) (a b c : Int) (w : World) : Calls Tryz.prog 28 #[.agg #[.int .i64 (n : Int), .int .i64 a, .int .i64 b, .int .i64 c]] w fun e w' => e = .returned (.int .i64 (min (max (((n : Int) - 4).tdiv 2) 0) 1024)) ∧ Below w.heap.size w w' := by
  go_enter Tryz.func28, Tryz.ntmps28
  go_wp2_with fail
  go_ret
  exact ⟨rfl, (Below.refl _ _).alloc (Nat.le_refl _) _⟩
end Go.Proofs.YticnmogeknlmeaaGreatDoor.B
