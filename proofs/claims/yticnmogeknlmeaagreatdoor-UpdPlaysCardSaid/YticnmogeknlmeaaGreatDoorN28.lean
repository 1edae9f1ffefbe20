/- Helper: an image that came is checked, and kept; walked. the change by which what is being installed is kept; what is told of an image that came; walked. an image begins to be installed; walked. rows of changes that grow. No condition. -/
import Derived.Test.YticnmogeknlmeaaGreatDoorN27
import Derived.Test.YticnmogeknlmeaaGreatDoorN02
namespace Go.Proofs.YticnmogeknlmeaaGreatDoor.B
open Go.RowKit Go.Maps Go.Proofs.YticnmogeknlmeaaGreatDoorW.PrintWords Go.Proofs.YticnmogeknlmeaaGreatDoor.Later
set_option maxRecDepth 100000
set_option maxHeartbeats 1600000
theorem ufin_none {w : World} {u a : Nat} {x : US} (h : UsAt w u a x) (hx : x.Ok) (hp : x.pn = none) (a0 a2 a3 a4 a5 : Int) (a1 a6 a7 : Bool) (hV : x.b.V = #[.int .i64 a0, .bool a1, .int .i64 a2, .int .i64 a3, .int .i64 a4, .int .i64 a5, .bool a6, .bool a7]) : Calls Tryz.prog 17 #[.pointer (some ⟨u, 0, none⟩)] w fun e w' => e = .returned (.int .i64 224) ∧ Below w.heap.size w w' := by
  have hb := boot_any h hx.b
  rw [hV] at hb
  have H := Lib.hid h
  have Hb := Lib.hid hb
  have Hp := Lib.hid (fun W (hW : UsAt W u a x) => uprog_none hW hp)
  clear h hb hV hp
  go_enter Tryz.func17, Tryz.ntmps17
  go_wp2_with fail
  refine Hb.out.mono ?_
  rintro e w1 ⟨rfl, hB⟩
  have HB1 := Lib.hid hB
  have H1 := Lib.hid (H.out.below hB)
  clear hB
  go_wp2_with fail
  refine (Hp.out _ (H1.out.below ((Below.refl _ _).alloc (Nat.le_refl _) _))).mono ?_
  rintro e w2 ⟨rfl, hB⟩
  obtain ⟨hB, k3⟩ := laid hB
  have HB2 := Lib.hid (HB1.out.trans (hB.mono HB1.out.size))
  clear hB k3
  go_wp2_with fail
  go_ret
  exact ⟨rfl, HB2.out.alloc HB2.out.size _⟩
theorem ufin_short {w : World} {u a : Nat} {x : US} (h : UsAt w u a x) (hx : x.Ok) {m : Man} {g : Nat} (hp : x.pn = some (m, g)) (hg : g ≠ m.n) (a0 a2 a3 a4 a5 : Int) (a1 a6 a7 : Bool) (hV : x.b.V = #[.int .i64 a0, .bool a1, .int .i64 a2, .int .i64 a3, .int .i64 a4, .int .i64 a5, .bool a6, .bool a7]) : Calls Tryz.prog 17 #[.pointer (some ⟨u, 0, none⟩)] w fun e w' => e = .returned (.int .i64 222) ∧ Below w.heap.size w w' := by
  have hb := boot_any h hx.b
  rw [hV] at hb
  have hok := hx.pn m g hp
  have H := Lib.hid h
  have Hb := Lib.hid hb
  have Hp := Lib.hid (fun W (hW : UsAt W u a x) => uprog_some hW hp hok.1 hok.2)
  have hne : ((g : Int) != (m.n : Int)) = true := bne_iff_ne.2 (by omega)
  clear h hb hV hp hok
  go_enter Tryz.func17, Tryz.ntmps17
  go_wp2_with fail
  refine Hb.out.mono ?_
  rintro e w1 ⟨rfl, hB⟩
  have HB1 := Lib.hid hB
  have H1 := Lib.hid (H.out.below hB)
  clear hB
  go_wp2_with fail
  refine (Hp.out _ (H1.out.below ((Below.refl _ _).alloc (Nat.le_refl _) _))).mono ?_
  rintro e w2 ⟨rfl, hB⟩
  obtain ⟨hB, k3⟩ := laid hB
  have HB2 := Lib.hid (HB1.out.trans (hB.mono HB1.out.size))
  clear hB k3
  go_wp2_with fail
  go_ret
  exact ⟨rfl, HB2.out.alloc HB2.out.size _⟩
/-- What is told of an image that came whole, and what there is then. -/
def US.fin (x : US) (m : Man) : Int × US :=
  if shaL (x.im (!x.b.ac)) = m.d then (match x.b.ready with
    | .ok b => (0, { x with m := setB x.m (!x.b.ac) (some m), b := b, pn := none })
    | .error e => (e, x)) else (223, x)
theorem ufin_whole {w : World} {u a : Nat} {x : US} (h : UsAt w u a x) (hx : x.Ok) {m : Man} {g : Nat} (hp : x.pn = some (m, g)) (hg : g = m.n) (hi : (x.im (!x.b.ac)).length = m.n) (a0 a2 a3 a4 a5 : Int) (a1 a6 a7 : Bool) (hV : x.b.V = #[.int .i64 a0, .bool a1, .int .i64 a2, .int .i64 a3, .int .i64 a4, .int .i64 a5, .bool a6, .bool a7]) (ha : 1 - a0 = if (!x.b.ac) then 1 else 0)
    (hr2 : ∀ b, x.b.ready = .ok b → ∃ b0 b2 b3 b4 b5 : Int, ∃ b1 b6 b7 : Bool, b.V = #[.int .i64 b0, .bool b1, .int .i64 b2, .int .i64 b3, .int .i64 b4, .int .i64 b5, .bool b6, .bool b7]) : Calls Tryz.prog 17 #[.pointer (some ⟨u, 0, none⟩)] w fun e w' => e = .returned (.int .i64 (x.fin m).1) ∧ UsAt w' u a (x.fin m).2 ∧ Mut (only a) w w' := by
  have hal := h.al
  have hb := boot_any h hx.b
  have hrd := fun W => tready_any x.b hx.b W
  rw [hV] at hb hrd
  have hok := hx.pn m g hp
  have hmo := hok.1
  have H := Lib.hid h
  have Hb := Lib.hid hb
  have Hp := Lib.hid (fun W (hW : UsAt W u a x) => uprog_some hW hp hok.1 hok.2)
  have hch := fun W (hW : UsAt W u a x) => ucheck_any hW (!x.b.ac) m hi (by have := hx.im (!x.b.ac); omega) hx.pg1
  rw [← ha] at hch
  have hne : ((g : Int) != (m.n : Int)) = false := by simp [hg]
  obtain ⟨X, hX⟩ : ∃ X, X = x.fin m := ⟨_, rfl⟩
  rw [← hX]
  have HX := Lib.hid hX
  have Hch := Lib.hid hch
  have Hx := Lib.hid hx
  have HP := Lib.hid hp
  have Ha := Lib.hid ha
  have Hmo := Lib.hid hmo
  have HV := Lib.hid hV
  have HAL := Lib.hid hal
  have Hrd := Lib.hid hrd
  have Hr2 := Lib.hid hr2
  have h01 : 0 ≤ 1 - a0 ∧ 1 - a0 ≤ 1 := by rw [ha]; cases x.b.ac <;> decide
  have h02 : 0 ≤ 1 + (1 - a0) := by omega
  clear h hb hV hok hch hX hx hp ha hmo hal hrd hr2
  go_enter Tryz.func17, Tryz.ntmps17
  go_wp2_with fail
  refine Hb.out.mono ?_
  rintro e w1 ⟨rfl, hB⟩
  have HB1 := Lib.hid hB
  have H1 := Lib.hid (H.out.below hB)
  clear hB
  go_wp2_with fail
  refine (Hp.out _ (H1.out.below ((Below.refl _ _).alloc (Nat.le_refl _) _))).mono ?_
  rintro e w2 ⟨rfl, hB⟩
  obtain ⟨hB, k3⟩ := laid hB
  have HB2 := Lib.hid (HB1.out.trans (hB.mono HB1.out.size))
  have H2 := Lib.hid (H1.out.below hB)
  have K3 := Lib.hid k3
  have hl3 : w1.heap.size < w2.heap.size := Blk.lt k3
  have hl1 := HB1.out.size
  clear hB
  obtain ⟨c0, c1, c2, c3, c4, c5, c6, c7⟩ := cells8 k3
  obtain ⟨g3, hg3⟩ : ∃ g3, g3 = w1.heap.size := ⟨_, rfl⟩
  rw [← hg3] at K3 hl3 hl1 c0 c1 c2 c3 c4 c5 c6 c7 ⊢
  clear hg3 k3
  -- the block of what came
  have hal5 : Below w2.heap.size w2 (w2.alloc (.cells #[.int .i64 (m.v : Int), .int .i64 (m.n : Int), .string (bs m.d), .int .i64 (g : Int)] 71)) := (Below.refl _ _).alloc (Nat.le_refl _) _
  have e3 := K3.out.below hal5
  have x0 : (w2.alloc (.cells #[.int .i64 (m.v : Int), .int .i64 (m.n : Int), .string (bs m.d), .int .i64 (g : Int)] 71)).cell? ⟨g3, 0, none⟩ = some (.int .i64 a0) := e3.cell 0
  clear e3 hal5
  go_wp2_with fail
  refine (Hch.out _ (H2.out.below ((Below.refl _ _).alloc (Nat.le_refl _) _))).mono ?_
  rintro e w3 ⟨rfl, hB⟩
  obtain ⟨hB, k5⟩ := laid hB
  have HB3 := Lib.hid (HB2.out.trans (hB.mono HB2.out.size))
  have H3 := Lib.hid (H2.out.below hB)
  have K3 := Lib.hid (K3.out.below hB)
  have K5 := Lib.hid k5
  clear hB c0 c1 c2 c3 c4 c5 c6 c7 x0
  obtain ⟨g5, hg5⟩ : ∃ g5, g5 = w2.heap.size := ⟨_, rfl⟩
  rw [← hg5] at K5 hl3 ⊢
  clear hg5 k5
  obtain ⟨c0, c1, c2, c3, c4, c5, c6, c7⟩ := cells8 K3.out
  by_cases hsha : shaL (x.im (!x.b.ac)) = m.d
  · rw [if_pos hsha]
    have Hsha := Lib.hid hsha
    clear hsha
    go_wp2_with fail
    refine (Hrd.out _).mono ?_
    rintro e w4 ⟨rfl, hB⟩
    have HB4 := Lib.hid (HB3.out.trans (hB.mono HB3.out.size))
    have H4 := Lib.hid (H3.out.below hB)
    have K5 := Lib.hid (K5.out.below hB)
    have hl5 : g5 < w4.heap.size := Blk.lt K5.out
    clear hB c0 c1 c2 c3 c4 c5 c6 c7
    have hXX := HX.out
    rw [US.fin, if_pos Hsha.out] at hXX
    cases hr : x.b.ready with
    | error e =>
      have hne0 := (not_ok0 Hx.out.b).2.1 hr
      have hneb : (e != 0) = true := bne_iff_ne.2 hne0
      rw [hr] at hXX
      have HXX := Lib.hid (show X = (e, x) from hXX)
      clear hXX hne0
      unfold BR.V BR.C BR.E bt0
      go_wp2_with fail
      go_ret
      rw [HXX.out]
      have hbf := HB4.out.alloc HB4.out.size (.cells #[.int .i64 0, .bool false, .int .i64 0, .int .i64 0, .int .i64 0, .int .i64 0, .bool false, .bool false] 32)
      exact ⟨rfl, H.out.below hbf, Mut.of_below hbf⟩
    | ok b =>
      rw [hr] at hXX
      have HXX := Lib.hid (show X = (0, { x with m := setB x.m (!x.b.ac) (some m), b := b, pn := none }) from hXX)
      have hbo := Hx.out.b.ready hr
      obtain ⟨b0, b2, b3, b4, b5, b1, b6, b7, hbV⟩ := Hr2.out b hr
      have HbV := Lib.hid hbV
      have Hbo := Lib.hid hbo
      have hput := fun W => tput_any b hbo W
      rw [hbV] at hput
      have Hput := Lib.hid hput
      clear hXX hbo hput
      unfold BR.V BR.C BR.E
      dsimp only
      rw [hbV]
      clear hbV
      go_wp2_with fail
      have k8 := (Blk.new w4 #[.int .i64 b0, .bool b1, .int .i64 b2, .int .i64 b3, .int .i64 b4, .int .i64 b5, .bool b6, .bool b7] 32).below ((Below.refl _ _).alloc (Nat.le_refl _) (.cells #[.int .i64 2, .int .i64 3, .int .i64 3, .int .i64 0, .int .i64 0, .int .i64 0, .string (bs [])] 102))
      have k9 := Blk.new (w4.alloc (.cells #[.int .i64 b0, .bool b1, .int .i64 b2, .int .i64 b3, .int .i64 b4, .int .i64 b5, .bool b6, .bool b7] 32)) #[.int .i64 2, .int .i64 3, .int .i64 3, .int .i64 0, .int .i64 0, .int .i64 0, .string (bs [])] 102
      rw [show (w4.alloc (.cells #[.int .i64 b0, .bool b1, .int .i64 b2, .int .i64 b3, .int .i64 b4, .int .i64 b5, .bool b6, .bool b7] 32)).heap.size = w4.heap.size + 1 by simp] at k9
      have hba : Below w4.heap.size w4 ((w4.alloc (.cells #[.int .i64 b0, .bool b1, .int .i64 b2, .int .i64 b3, .int .i64 b4, .int .i64 b5, .bool b6, .bool b7] 32)).alloc (.cells #[.int .i64 2, .int .i64 3, .int .i64 3, .int .i64 0, .int .i64 0, .int .i64 0, .string (bs [])] 102)) := ((Below.refl _ _).alloc (Nat.le_refl _) _).alloc (by simp) _
      obtain ⟨W, hW⟩ : ∃ W, W = (w4.alloc (.cells #[.int .i64 b0, .bool b1, .int .i64 b2, .int .i64 b3, .int .i64 b4, .int .i64 b5, .bool b6, .bool b7] 32)).alloc (.cells #[.int .i64 2, .int .i64 3, .int .i64 3, .int .i64 0, .int .i64 0, .int .i64 0, .string (bs [])] 102) := ⟨_, rfl⟩
      rw [show (Value.string (bs []) : Value) = .string { data := #[] } from rfl] at k9 hW hba k8
      rw [← hW] at k8 k9 hba ⊢
      have K5w := K5.out.below hba
      have HBW := Lib.hid (HB4.out.trans (hba.mono HB4.out.size))
      have HW := Lib.hid (H4.out.below hba)
      obtain ⟨y0, y1, y2, y3, y4, y5, y6, y7⟩ := cells8 k8
      have r0 := fun n => later_cell y0 n
      have r1 := fun n => later_cell y1 n
      have r2 := fun n => later_cell y2 n
      have r3 := fun n => later_cell y3 n
      have r4 := fun n => later_cell y4 n
      have r5 := fun n => later_cell y5 n
      have r6 := fun n => later_cell y6 n
      have r7 := fun n => later_cell y7 n
      have s0 := fun n => later_cell (k9.cell 0) n
      have s1 := fun n => later_cell (k9.cell 1) n
      have s2 := fun n => later_cell (k9.cell 2) n
      have s3 := fun n => later_cell (k9.cell 3) n
      have s4 := fun n => later_cell (k9.cell 4) n
      have s5 := fun n => later_cell (k9.cell 5) n
      have s6 := fun n => later_cell (k9.cell 6) n
      have t0 := fun n => later_cell (K5w.cell 0) n
      have t1 := fun n => later_cell (K5w.cell 1) n
      have t2 := fun n => later_cell (K5w.cell 2) n
      have hman := fun W' => mput_any m (by have := Hmo.out; unfold Man.Ok at this; omega) (by have := Hmo.out; unfold Man.Ok at this; omega) (by have := Hmo.out; unfold Man.Ok at this; omega) W'
      have Hman := Lib.hid (show ∀ W', Calls Tryz.prog 47 #[.agg #[.int .i64 (m.v : Int), .int .i64 (m.n : Int), .string (bs m.d)]] W' fun e w' => e = .returned (.string (bs (manB m))) ∧ Below W'.heap.size W' w' from hman)
      clear k8 k9 hba hW K5w y0 y1 y2 y3 y4 y5 y6 y7 hman
      refine wp_region_later_skip (.pointer (some ⟨u, 0, none⟩)) 10 (by kernel_rfl) (by kernel_rfl) (by decide) (by kernel_rfl) (by kernel_rfl) (by kernel_rfl) (by kernel_rfl) (by kernel_rfl) (fun _ _ _ h => h) (Or.inl ⟨by rfl, fun W => rfl⟩) ?_
      simp only [List.take_succ_cons, List.take_zero, List.drop_succ_cons, List.drop_zero, Act.put, List.setIfInBounds_toArray, List.set_cons_zero, List.set_cons_succ]
      repeat go_big_quiet_step (fail)
      go_big_quiet_step (with_reducible exact calls_later (fun w1 _ => Hman.out w1) _)
      repeat go_big_quiet_step (fail)
      go_big_quiet_step (with_reducible exact calls_later (fun w1 _ => put_c 3 (1 + (1 - a0)) (manB m) w1) _)
      repeat go_big_quiet_step (fail)
      go_big_quiet_step (with_reducible exact calls_later (fun w1 _ => Hput.out w1) _)
      repeat go_big_quiet_step (fail)
      go_big_quiet_step (with_reducible exact calls_later (fun w1 _ => put_c 3 0 b.B w1) _)
      repeat go_big_quiet_step (fail)
      refine wpQuiet_nil ?_
      intro w5 hw5
      have hb5 := later_of hw5
      have HB5 := Lib.hid (HBW.out.trans (hb5.mono HBW.out.size))
      have H5 := Lib.hid (HW.out.below hb5)
      clear hw5 hb5 r0 r1 r2 r3 r4 r5 r6 r7 s0 s1 s2 s3 s4 s5 s6 t0 t1 t2
      go_wp2_with fail
      have hal := HAL.out
      have hs5 := HB5.out.size
      have hsd : (1 + (1 - a0) : Int) = sid (!x.b.ac) := by rw [Ha.out]; cases x.b.ac <;> rfl
      have hC := chC_of (l := [putCh 3 (1 + (1 - a0)) (manB m), putCh 3 0 b.B, trimCh 3 3]) (Blk.new w5 (cellsC [putCh 3 (1 + (1 - a0)) (manB m), putCh 3 0 b.B, trimCh 3 3]).toArray 102) (by simp)
      have hB6 := HB5.out.alloc HB5.out.size (.cells (cellsC [putCh 3 (1 + (1 - a0)) (manB m), putCh 3 0 b.B, trimCh 3 3]).toArray 102)
      refine (all_us (x' := { x with m := setB x.m (!x.b.ac) (some m), b := b, pn := none }) (H5.out.below ((Below.refl _ _).alloc (Nat.le_refl _) _)) Hx.out rfl (l := [putCh 3 (1 + (1 - a0)) (manB m), putCh 3 0 b.B, trimCh 3 3]) (by simp) (fun M hl hm => ?_) hC (by omega)).mono ?_
      · rw [hsd]
        have s1 := step_man hl (by omega) (!x.b.ac) Hmo.out
        have s2 := s1.trans (fun M1 h1 e1 => step_b h1 (by omega) Hbo.out)
        exact ⟨_, s2.trans (fun M2 h2 e2 => step_done h2 (by omega) (by show x.pn.isSome = true; rw [HP.out]; rfl))⟩
      · rintro e w7 ⟨rfl, hU, hm⟩
        have HU := Lib.hid hU
        have HM := Lib.hid ((Mut.of_below (S := only a) hB6).trans hm)
        clear hU hm hC hB6
        go_wp2_with fail
        go_ret
        rw [HXX.out]
        exact ⟨rfl, HU.out, HM.out⟩
  · rw [if_neg hsha]
    have hXX := HX.out
    rw [US.fin, if_neg hsha] at hXX
    have HXX := Lib.hid hXX
    clear hXX hsha
    go_wp2_with fail
    go_ret
    rw [HXX.out]
    exact ⟨rfl, H.out.below HB3.out, Mut.of_below HB3.out⟩
end Go.Proofs.YticnmogeknlmeaaGreatDoor.B
namespace Go.Proofs.YticnmogeknlmeaaGreatDoor.B
open Go.RowKit Go.Maps Go.Proofs.YticnmogeknlmeaaGreatDoorW.PrintWords Go.Proofs.YticnmogeknlmeaaGreatDoor.Later
set_option maxRecDepth 100000
set_option maxHeartbeats 1600000
theorem blk_put7 {w : World} {g : Nat} {t : TypeId} {a b c d e f x : Value} (h : Blk w g #[a, b, c, d, e, f, x] t) (a' b' c' d' e' f' x' : Value) :
    Blk (((((((w.setCell ⟨g, 0, none⟩ a').setCell ⟨g, 1, none⟩ b').setCell ⟨g, 2, none⟩ c').setCell ⟨g, 3, none⟩ d').setCell ⟨g, 4, none⟩ e').setCell ⟨g, 5, none⟩ f').setCell ⟨g, 6, none⟩ x') g #[a', b', c', d', e', f', x'] t := by
  have := ((((((h.set 0 a').set 1 b').set 2 c').set 3 d').set 4 e').set 5 f').set 6 x'
  simpa using this
theorem below_put7 {b g : Nat} {w w1 : World} (h : Below b w w1) (hg : b ≤ g) (a' b' c' d' e' f' x' : Value) : Below b w (((((((w1.setCell ⟨g, 0, none⟩ a').setCell ⟨g, 1, none⟩ b').setCell ⟨g, 2, none⟩ c').setCell ⟨g, 3, none⟩ d').setCell ⟨g, 4, none⟩ e').setCell ⟨g, 5, none⟩ f').setCell ⟨g, 6, none⟩ x') :=
  ((((((h.setCell (p := ⟨g, 0, none⟩) hg _).setCell (p := ⟨g, 1, none⟩) hg _).setCell (p := ⟨g, 2, none⟩) hg _).setCell (p := ⟨g, 3, none⟩) hg _).setCell (p := ⟨g, 4, none⟩) hg _).setCell (p := ⟨g, 5, none⟩) hg _).setCell (p := ⟨g, 6, none⟩) hg _
theorem prog_c (m : Man) (hm : m.Ok) (g : Nat) (hg : g ≤ 1048576) (w : World) : Calls Tryz.prog 43 #[.agg #[.int .i64 (m.v : Int), .int .i64 (m.n : Int), .string (bs m.d), .int .i64 (g : Int)]] w fun e w' => e = .returned (.agg #[.int .i64 1, .int .i64 3, .int .i64 3, .int .i64 0, .int .i64 0, .int .i64 0, .string (bs (manB m ++ numL g))]) ∧ Below w.heap.size w w' := by
  have hman := fun W' => mput_any m (by have := hm; unfold Man.Ok at this; omega) (by have := hm; unfold Man.Ok at this; omega) (by have := hm; unfold Man.Ok at this; omega) W'
  have Hman := Lib.hid (show ∀ W', Calls Tryz.prog 47 #[.agg #[.int .i64 (m.v : Int), .int .i64 (m.n : Int), .string (bs m.d)]] W' fun e w' => e = .returned (.string (bs (manB m))) ∧ Below W'.heap.size W' w' from hman)
  have Hnum := Lib.hid (fun W => num_any g (by omega) W)
  have l1 := manB_len2 hm
  have l2 := numL_mid (n := g) (by omega)
  obtain ⟨P, hP⟩ : ∃ P, P = manB m := ⟨_, rfl⟩
  obtain ⟨Q, hQ⟩ : ∃ Q, Q = numL g := ⟨_, rfl⟩
  rw [← hP] at Hman l1 ⊢
  rw [← hQ] at Hnum l2 ⊢
  clear hP hQ hman hm
  have z1 := bs_size P
  have z2 := bs_size Q
  have happ := bs_app P Q
  have Hput := Lib.hid (fun W => put_c 3 3 (P ++ Q) W)
  go_enter Tryz.func43, Tryz.ntmps43
  go_upto_region 1 with fail
  have k1 := (Blk.new w #[.int .i64 (m.v : Int), .int .i64 (m.n : Int), .string (bs m.d), .int .i64 (g : Int)] 71).below ((Below.refl _ _).alloc (Nat.le_refl _) (.cells #[.int .i64 0, .int .i64 0, .int .i64 0, .int .i64 0, .int .i64 0, .int .i64 0, .string { data := #[] }] 102))
  have k2 := Blk.new (w.alloc (.cells #[.int .i64 (m.v : Int), .int .i64 (m.n : Int), .string (bs m.d), .int .i64 (g : Int)] 71)) #[.int .i64 0, .int .i64 0, .int .i64 0, .int .i64 0, .int .i64 0, .int .i64 0, .string { data := #[] }] 102
  rw [show (w.alloc (.cells #[.int .i64 (m.v : Int), .int .i64 (m.n : Int), .string (bs m.d), .int .i64 (g : Int)] 71)).heap.size = w.heap.size + 1 by simp] at k2
  have hba : Below w.heap.size w ((w.alloc (.cells #[.int .i64 (m.v : Int), .int .i64 (m.n : Int), .string (bs m.d), .int .i64 (g : Int)] 71)).alloc (.cells #[.int .i64 0, .int .i64 0, .int .i64 0, .int .i64 0, .int .i64 0, .int .i64 0, .string { data := #[] }] 102)) := ((Below.refl _ _).alloc (Nat.le_refl _) _).alloc (by simp) _
  obtain ⟨W, hW⟩ : ∃ W, W = (w.alloc (.cells #[.int .i64 (m.v : Int), .int .i64 (m.n : Int), .string (bs m.d), .int .i64 (g : Int)] 71)).alloc (.cells #[.int .i64 0, .int .i64 0, .int .i64 0, .int .i64 0, .int .i64 0, .int .i64 0, .string { data := #[] }] 102) := ⟨_, rfl⟩
  rw [← hW] at k1 k2 hba ⊢
  have HB := Lib.hid hba
  have K2 := Lib.hid k2
  have t0 := fun n => later_cell (k1.cell 0) n
  have t1 := fun n => later_cell (k1.cell 1) n
  have t2 := fun n => later_cell (k1.cell 2) n
  have t3 := fun n => later_cell (k1.cell 3) n
  clear hW k1 k2 hba
  refine wp_region_later_tail 9 (by kernel_rfl) (by kernel_rfl) ?_
  simp only [List.take_succ_cons, List.take_zero, List.drop_succ_cons, List.drop_zero]
  repeat go_big_quiet_step (fail)
  go_big_quiet_step (with_reducible exact calls_later (fun w1 _ => Hman.out w1) _)
  repeat go_big_quiet_step (fail)
  go_big_quiet_step (with_reducible exact calls_later (fun w1 _ => Hnum.out w1) _)
  repeat go_big_quiet_step (fail)
  go_big_quiet_step (with_reducible exact calls_later (fun w1 _ => Hput.out w1) _)
  repeat go_big_quiet_step (fail)
  refine wpQuiet_nil ?_
  intro w5 hw5
  have hb5 := later_of hw5
  have HB5 := Lib.hid (HB.out.trans (hb5.mono HB.out.size))
  have K5 := Lib.hid (K2.out.below hb5)
  clear hw5 hb5 t0 t1 t2 t3
  have c0 : w5.cell? ⟨w.heap.size + 1, 0, none⟩ = some (.int .i64 0) := K5.out.cell 0
  have c1 : w5.cell? ⟨w.heap.size + 1, 1, none⟩ = some (.int .i64 0) := K5.out.cell 1
  have c2 : w5.cell? ⟨w.heap.size + 1, 2, none⟩ = some (.int .i64 0) := K5.out.cell 2
  have c3 : w5.cell? ⟨w.heap.size + 1, 3, none⟩ = some (.int .i64 0) := K5.out.cell 3
  have c4 : w5.cell? ⟨w.heap.size + 1, 4, none⟩ = some (.int .i64 0) := K5.out.cell 4
  have c5 : w5.cell? ⟨w.heap.size + 1, 5, none⟩ = some (.int .i64 0) := K5.out.cell 5
  have c6 : w5.cell? ⟨w.heap.size + 1, 6, none⟩ = some (.string { data := #[] }) := K5.out.cell 6
  have ff := fun i => Blk.free K5.out i
  go_wp2_with fail
  refine bodyPost_ret (results_cell_row (p := 2) (ty := 102) (by kernel_rfl) _ _ (w.heap.size + 1) 102 #[.int .i64 1, .int .i64 3, .int .i64 3, .int .i64 0, .int .i64 0, .int .i64 0, .string (bs (P ++ Q))] (0, 0) _ rfl (blk_put7 K5.out _ _ _ _ _ _ _) Tryz.underlying102 rfl (by kernel_rfl)) rfl ?_
  exact ⟨rfl, below_put7 HB5.out (by omega) _ _ _ _ _ _ _⟩
/-- What holds while an image comes. -/
def US.Inst (x : US) : Prop := ∀ m g, x.pn = some (m, g) → (x.im (!x.b.ac)).length = g ∧ g ≤ m.n ∧ m.n ≤ 64 * x.pg ∧ x.b.tr = false ∧ x.b.gd = false
/-- What is told when an image is to be checked, and what there is then. -/
def US.finalize (x : US) : Int × US := match x.pn with
  | none => (224, x)
  | some (m, g) => if g = m.n then x.fin m else (222, x)
theorem Bt.V8 (b : Bt) : ∃ b0 b2 b3 b4 b5 : Int, ∃ b1 b6 b7 : Bool, b.V = #[.int .i64 b0, .bool b1, .int .i64 b2, .int .i64 b3, .int .i64 b4, .int .i64 b5, .bool b6, .bool b7] ∧ b0 = (if b.ac then 1 else 0) := by
  obtain ⟨ac, tr, gd, n, ls, va, vo⟩ := b
  cases ac
  · exact ⟨_, _, _, _, _, _, _, _, rfl, rfl⟩
  · exact ⟨_, _, _, _, _, _, _, _, rfl, rfl⟩
theorem ufin_any {w : World} {u a : Nat} {x : US} (h : UsAt w u a x) (hx : x.Ok) (hI : x.Inst) : Calls Tryz.prog 17 #[.pointer (some ⟨u, 0, none⟩)] w fun e w' => e = .returned (.int .i64 x.finalize.1) ∧ UsAt w' u a x.finalize.2 ∧ Mut (only a) w w' := by
  obtain ⟨a0, a2, a3, a4, a5, a1, a6, a7, hV, h0⟩ := x.b.V8
  cases hp : x.pn with
  | none =>
    rw [show x.finalize = (224, x) by rw [US.finalize, hp]]
    refine (ufin_none h hx hp a0 a2 a3 a4 a5 a1 a6 a7 hV).mono ?_
    rintro e w' ⟨rfl, hB⟩
    exact ⟨rfl, h.below hB, Mut.of_below hB⟩
  | some y =>
    obtain ⟨m, g⟩ := y
    by_cases hg : g = m.n
    · rw [show x.finalize = x.fin m by rw [US.finalize, hp]; simp only []; rw [if_pos hg]]
      refine ufin_whole h hx hp hg (by rw [(hI m g hp).1, hg]) a0 a2 a3 a4 a5 a1 a6 a7 hV ?_ (fun b _ => ?_)
      · rw [h0]; cases x.b.ac <;> rfl
      · obtain ⟨b0, b2, b3, b4, b5, b1, b6, b7, hb, _⟩ := b.V8
        exact ⟨b0, b2, b3, b4, b5, b1, b6, b7, hb⟩
    · rw [show x.finalize = (222, x) by rw [US.finalize, hp]; simp only []; rw [if_neg hg]]
      refine (ufin_short h hx hp hg a0 a2 a3 a4 a5 a1 a6 a7 hV).mono ?_
      rintro e w' ⟨rfl, hB⟩
      exact ⟨rfl, h.below hB, Mut.of_below hB⟩
end Go.Proofs.YticnmogeknlmeaaGreatDoor.B
namespace Go.Proofs.YticnmogeknlmeaaGreatDoor.B
open Go.RowKit Go.Maps Go.Proofs.YticnmogeknlmeaaGreatDoorW.PrintWords Go.Proofs.YticnmogeknlmeaaGreatDoor.Later
set_option maxRecDepth 100000
set_option maxHeartbeats 1600000
/-- What is told when an image begins to be installed, and what there is then. -/
def US.install (x : US) (l : List UInt8) : Int × US := match parseL l with
  | none => (200, x)
  | some m => if 64 * x.pg < m.n then (222, x) else match x.b.inst m.v with
    | .error e => (e, x)
    | .ok b => (0, { x with im := setB x.im (!x.b.ac) [], b := b, pn := some (m, 0) })
theorem uinst_x {w : World} {u a : Nat} {x : US} (h : UsAt w u a x) (hx : x.Ok) (l : List UInt8) (hl : l.length < 4294967281) (hok : ∀ m, parseL l = some m → m.Ok) (a0 a2 a3 a4 a5 : Int) (a1 a6 a7 : Bool) (hV : x.b.V = #[.int .i64 a0, .bool a1, .int .i64 a2, .int .i64 a3, .int .i64 a4, .int .i64 a5, .bool a6, .bool a7]) (ha : 2 - a0 = sid (!x.b.ac)) : Calls Tryz.prog 14 #[.pointer (some ⟨u, 0, none⟩), .string (bs l)] w fun e w' => e = .returned (.int .i64 (x.install l).1) ∧ UsAt w' u a (x.install l).2 ∧ Mut (only a) w w' := by
  have hal := h.al
  have hb := boot_any h hx.b
  rw [hV] at hb
  have hin := fun (v : Nat) W => tinst_any x.b hx.b v W
  rw [hV] at hin
  obtain ⟨X, hX⟩ : ∃ X, X = x.install l := ⟨_, rfl⟩
  rw [← hX]
  have H := Lib.hid h
  have Hb := Lib.hid hb
  have Hin := Lib.hid hin
  have HX := Lib.hid hX
  have Hx := Lib.hid hx
  have Ha := Lib.hid ha
  have HAL := Lib.hid hal
  have Hok := Lib.hid hok
  have Hpa := Lib.hid (fun W => parse_any l hl W)
  have hu1 := h.c1
  have h01 : 1 ≤ 2 - a0 ∧ 2 - a0 ≤ 2 := by rw [ha]; exact sid_in _
  clear h hb hV hin hX hx ha hal hok hu1
  go_enter Tryz.func14, Tryz.ntmps14
  go_wp2_with fail
  refine Hb.out.mono ?_
  rintro e w1 ⟨rfl, hB⟩
  have HB1 := Lib.hid hB
  have H1 := Lib.hid (H.out.below hB)
  clear hB
  go_wp2_with fail
  refine (Hpa.out _).mono ?_
  rintro e w2 ⟨hpo, hB⟩
  obtain ⟨hB, k3⟩ := laid hB
  have HB2 := Lib.hid (HB1.out.trans (hB.mono HB1.out.size))
  have H2 := Lib.hid (H1.out.below hB)
  have K3 := Lib.hid k3
  have hl3 : w1.heap.size < w2.heap.size := Blk.lt k3
  have hl1 := HB1.out.size
  clear hB k3
  obtain ⟨g3, hg3⟩ : ∃ g3, g3 = w1.heap.size := ⟨_, rfl⟩
  rw [← hg3] at K3 hl3 hl1 ⊢
  clear hg3
  have hXX := HX.out
  cases hp : parseL l with
  | none =>
    rw [US.install, hp] at hXX
    have HXX := Lib.hid (show X = (200, x) from hXX)
    rw [hp] at hpo
    obtain ⟨k, _, _, rfl⟩ := hpo
    clear hXX
    unfold Man.cells man0
    go_wp2_with fail
    go_ret
    rw [HXX.out]
    have hbf := HB2.out.alloc HB2.out.size (.cells #[.int .i64 0, .int .i64 0, .string { data := #[] }] 34)
    exact ⟨rfl, H.out.below hbf, Mut.of_below hbf⟩
  | some m =>
    have hmo := Hok.out m hp
    rw [US.install, hp] at hXX
    simp only [] at hXX
    rw [hp] at hpo
    have hpo : e = _ := hpo
    subst hpo
    have Hmo := Lib.hid hmo
    have hm1 := hmo.2.1
    have hm2 := hmo.2.2.1
    have Hxx := Lib.hid hXX
    clear hXX hmo hp
    obtain ⟨c0, c1, c2, c3, c4, c5, c6, c7⟩ := cells8 K3.out
    unfold Man.cells
    have hba : Below w2.heap.size w2 (w2.alloc (.cells #[.int .i64 (m.v : Int), .int .i64 (m.n : Int), .string (bs m.d)] 34)) := (Below.refl _ _).alloc (Nat.le_refl _) _
    have u1 : (w2.alloc (.cells #[.int .i64 (m.v : Int), .int .i64 (m.n : Int), .string (bs m.d)] 34)).cell? ⟨u, 1, none⟩ = some (.int .i64 (x.pg : Int)) := (H2.out.below hba).c1
    have u2 : (w2.alloc (.cells #[.int .i64 (m.v : Int), .int .i64 (m.n : Int), .string (bs m.d)] 34)).cell? ⟨u, 2, none⟩ = some (.int .i64 64) := (H2.out.below hba).c2
    have hpg := Hx.out.pg1
    have k7 := Blk.new w2 #[.int .i64 (m.v : Int), .int .i64 (m.n : Int), .string (bs m.d)] 34
    have k3 := K3.out.below hba
    have HBa := Lib.hid hba
    clear hba c0 c1 c2 c3 c4 c5 c6 c7
    by_cases hsz : 64 * x.pg < m.n
    · have HXX := Lib.hid (show X = (222, x) by rw [Hxx.out, if_pos hsz])
      have hd : decide ((x.pg : Int) * 64 < (m.n : Int)) = true := decide_eq_true (by omega)
      go_wp2_with fail
      go_quiet (fail)
      go_wp2_with fail
      go_ret
      rw [HXX.out]
      have hbf := below_drewN (HB2.out.trans (HBa.out.mono HB2.out.size)) nq
      exact ⟨rfl, H.out.below hbf, Mut.of_below hbf⟩
    · have hx2 := Hxx.out
      rw [if_neg hsz] at hx2
      have hd : decide ((x.pg : Int) * 64 < (m.n : Int)) = false := decide_eq_false (by omega)
      go_wp2_with fail
      go_quiet (fail)
      have hbn := below_drewN (Below.refl (w2.alloc (.cells #[.int .i64 (m.v : Int), .int .i64 (m.n : Int), .string (bs m.d)] 34)).heap.size (w2.alloc (.cells #[.int .i64 (m.v : Int), .int .i64 (m.n : Int), .string (bs m.d)] 34))) nq
      have k7n := k7.below hbn
      have k3n := k3.below hbn
      have hbw := HBa.out.trans (hbn.mono (by simp))
      obtain ⟨g7, hg7⟩ : ∃ g7, g7 = w2.heap.size := ⟨_, rfl⟩
      have hl7 := hl3
      rw [← hg7] at k7n hl7 ⊢
      revert k7n k3n hbw
      generalize World.drewN (w2.alloc (.cells #[.int .i64 (m.v : Int), .int .i64 (m.n : Int), .string (bs m.d)] 34)) nq = W
      intro k3n hbw k7n
      have HBW := Lib.hid (HB2.out.trans (hbw.mono HB2.out.size))
      have HW := Lib.hid (H2.out.below hbw)
      have K3 := Lib.hid k3n
      have K7 := Lib.hid k7n
      clear hbn hbw u1 u2 k7 k3 hd hg7
      obtain ⟨c0, c1, c2, c3, c4, c5, c6, c7⟩ := cells8 k3n
      have d0 : W.cell? ⟨g7, 0, none⟩ = some (.int .i64 (m.v : Int)) := k7n.cell 0
      have d1 : W.cell? ⟨g7, 1, none⟩ = some (.int .i64 (m.n : Int)) := k7n.cell 1
      have d2 : W.cell? ⟨g7, 2, none⟩ = some (.string (bs m.d)) := k7n.cell 2
      clear k3n k7n
      go_wp2_with fail
      refine (Hin.out m.v _).mono ?_
      rintro e w4 ⟨rfl, hB⟩
      have HB4 := Lib.hid (HBW.out.trans (hB.mono HBW.out.size))
      have H4 := Lib.hid (HW.out.below hB)
      have K3 := Lib.hid (K3.out.below hB)
      have K7 := Lib.hid (K7.out.below hB)
      clear hB c0 c1 c2 c3 c4 c5 c6 c7 d0 d1 d2
      cases hr : x.b.inst m.v with
      | error e =>
        have hne0 := (not_ok0 Hx.out.b).1 m.v hr
        have hneb : (e != 0) = true := bne_iff_ne.2 hne0
        rw [hr] at hx2
        have HXX := Lib.hid (show X = (e, x) from hx2)
        clear hx2 hne0
        unfold BR.V BR.C BR.E bt0
        go_wp2_with fail
        go_ret
        rw [HXX.out]
        have hbf := HB4.out.alloc HB4.out.size (.cells #[.int .i64 0, .bool false, .int .i64 0, .int .i64 0, .int .i64 0, .int .i64 0, .bool false, .bool false] 32)
        exact ⟨rfl, H.out.below hbf, Mut.of_below hbf⟩
      | ok b =>
        rw [hr] at hx2
        have HXX := Lib.hid (show X = (0, { x with im := setB x.im (!x.b.ac) [], b := b, pn := some (m, 0) }) from hx2)
        have hbo := Hx.out.b.inst hr
        obtain ⟨b0, b2, b3, b4, b5, b1, b6, b7, hbV, hb0⟩ := b.V8
        clear hb0
        have Hbo := Lib.hid hbo
        have hput := fun W => tput_any b hbo W
        rw [hbV] at hput
        have Hput := Lib.hid hput
        clear hx2 hbo hput
        unfold BR.V BR.C BR.E
        dsimp only
        rw [hbV]
        clear hbV
        have hba : Below w4.heap.size w4 (w4.alloc (.cells #[.int .i64 b0, .bool b1, .int .i64 b2, .int .i64 b3, .int .i64 b4, .int .i64 b5, .bool b6, .bool b7] 32)) := (Below.refl _ _).alloc (Nat.le_refl _) _
        have v0 : (w4.alloc (.cells #[.int .i64 b0, .bool b1, .int .i64 b2, .int .i64 b3, .int .i64 b4, .int .i64 b5, .bool b6, .bool b7] 32)).cell? ⟨g3, 0, none⟩ = some (.int .i64 a0) := (K3.out.below hba).cell 0
        clear hba
        go_wp2_with fail
        clear v0
        have k8 := (Blk.new w4 #[.int .i64 b0, .bool b1, .int .i64 b2, .int .i64 b3, .int .i64 b4, .int .i64 b5, .bool b6, .bool b7] 32).below ((Below.refl _ _).alloc (Nat.le_refl _) (.cells #[.int .i64 5, .int .i64 (2 - a0), .int .i64 0, .int .i64 0, .int .i64 0, .int .i64 0, .string { data := #[] }] 102))
        have k9 := Blk.new (w4.alloc (.cells #[.int .i64 b0, .bool b1, .int .i64 b2, .int .i64 b3, .int .i64 b4, .int .i64 b5, .bool b6, .bool b7] 32)) #[.int .i64 5, .int .i64 (2 - a0), .int .i64 0, .int .i64 0, .int .i64 0, .int .i64 0, .string { data := #[] }] 102
        rw [show (w4.alloc (.cells #[.int .i64 b0, .bool b1, .int .i64 b2, .int .i64 b3, .int .i64 b4, .int .i64 b5, .bool b6, .bool b7] 32)).heap.size = w4.heap.size + 1 by simp] at k9
        have hba : Below w4.heap.size w4 ((w4.alloc (.cells #[.int .i64 b0, .bool b1, .int .i64 b2, .int .i64 b3, .int .i64 b4, .int .i64 b5, .bool b6, .bool b7] 32)).alloc (.cells #[.int .i64 5, .int .i64 (2 - a0), .int .i64 0, .int .i64 0, .int .i64 0, .int .i64 0, .string { data := #[] }] 102)) := ((Below.refl _ _).alloc (Nat.le_refl _) _).alloc (by simp) _
        obtain ⟨V, hW⟩ : ∃ V, V = (w4.alloc (.cells #[.int .i64 b0, .bool b1, .int .i64 b2, .int .i64 b3, .int .i64 b4, .int .i64 b5, .bool b6, .bool b7] 32)).alloc (.cells #[.int .i64 5, .int .i64 (2 - a0), .int .i64 0, .int .i64 0, .int .i64 0, .int .i64 0, .string { data := #[] }] 102) := ⟨_, rfl⟩
        rw [← hW] at k8 k9 hba ⊢
        have K7w := K7.out.below hba
        have HBV := Lib.hid (HB4.out.trans (hba.mono HB4.out.size))
        have HV := Lib.hid (H4.out.below hba)
        obtain ⟨y0, y1, y2, y3, y4, y5, y6, y7⟩ := cells8 k8
        have r0 := fun n => later_cell y0 n
        have r1 := fun n => later_cell y1 n
        have r2 := fun n => later_cell y2 n
        have r3 := fun n => later_cell y3 n
        have r4 := fun n => later_cell y4 n
        have r5 := fun n => later_cell y5 n
        have r6 := fun n => later_cell y6 n
        have r7 := fun n => later_cell y7 n
        have s0 := fun n => later_cell (k9.cell 0) n
        have s1 := fun n => later_cell (k9.cell 1) n
        have s2 := fun n => later_cell (k9.cell 2) n
        have s3 := fun n => later_cell (k9.cell 3) n
        have s4 := fun n => later_cell (k9.cell 4) n
        have s5 := fun n => later_cell (k9.cell 5) n
        have s6 := fun n => later_cell (k9.cell 6) n
        have t0 := fun n => later_cell (K7w.cell 0) n
        have t1 := fun n => later_cell (K7w.cell 1) n
        have t2 := fun n => later_cell (K7w.cell 2) n
        have p1 := fun n => later_cell HV.out.c1 n
        have Hprog := Lib.hid (show ∀ W', Calls Tryz.prog 43 #[.agg #[.int .i64 (m.v : Int), .int .i64 (m.n : Int), .string (bs m.d), .int .i64 0]] W' fun e w' => e = .returned (.agg #[.int .i64 1, .int .i64 3, .int .i64 3, .int .i64 0, .int .i64 0, .int .i64 0, .string (bs (manB m ++ numL 0))]) ∧ Below W'.heap.size W' w' from fun W' => prog_c m Hmo.out 0 (by decide) W')
        clear k8 k9 hba hW K7w y0 y1 y2 y3 y4 y5 y6 y7
        refine wp_region_later_skip (.pointer (some ⟨u, 0, none⟩)) 13 (by kernel_rfl) (by kernel_rfl) (by decide) (by kernel_rfl) (by kernel_rfl) (by kernel_rfl) (by kernel_rfl) (by kernel_rfl) (fun _ _ _ h => h) (Or.inl ⟨by rfl, fun W => rfl⟩) ?_
        simp only [List.take_succ_cons, List.take_zero, List.drop_succ_cons, List.drop_zero, Act.put, List.setIfInBounds_toArray, List.set_cons_zero, List.set_cons_succ]
        repeat go_big_quiet_step (fail)
        go_big_quiet_step (with_reducible exact calls_later (fun w1 _ => made_c (2 - a0) (x.pg : Int) w1) _)
        repeat go_big_quiet_step (fail)
        go_big_quiet_step (with_reducible exact calls_later (fun w1 _ => Hput.out w1) _)
        repeat go_big_quiet_step (fail)
        go_big_quiet_step (with_reducible exact calls_later (fun w1 _ => put_c 3 0 b.B w1) _)
        repeat go_big_quiet_step (fail)
        go_big_quiet_step (with_reducible exact calls_later (fun w1 _ => Hprog.out w1) _)
        repeat go_big_quiet_step (fail)
        refine wpQuiet_nil ?_
        intro w5 hw5
        have hb5 := later_of hw5
        have HB5 := Lib.hid (HBV.out.trans (hb5.mono HBV.out.size))
        have H5 := Lib.hid (HV.out.below hb5)
        clear hw5 hb5 r0 r1 r2 r3 r4 r5 r6 r7 s0 s1 s2 s3 s4 s5 s6 t0 t1 t2 p1
        go_wp2_with fail
        have hal := HAL.out
        have hs5 := HB5.out.size
        have hC := chC_of (l := [dropCh (2 - a0), makeCh (2 - a0) x.pg, putCh 3 0 b.B, putCh 3 3 (manB m ++ numL 0)]) (Blk.new w5 (cellsC [dropCh (2 - a0), makeCh (2 - a0) x.pg, putCh 3 0 b.B, putCh 3 3 (manB m ++ numL 0)]).toArray 102) (by simp)
        have hB6 := HB5.out.alloc HB5.out.size (.cells (cellsC [dropCh (2 - a0), makeCh (2 - a0) x.pg, putCh 3 0 b.B, putCh 3 3 (manB m ++ numL 0)]).toArray 102)
        refine (all_us (x' := { x with im := setB x.im (!x.b.ac) [], b := b, pn := some (m, 0) }) (H5.out.below ((Below.refl _ _).alloc (Nat.le_refl _) _)) Hx.out rfl (l := [dropCh (2 - a0), makeCh (2 - a0) x.pg, putCh 3 0 b.B, putCh 3 3 (manB m ++ numL 0)]) (by simp) (fun M hl hm => ?_) hC (by omega)).mono ?_
        · rw [Ha.out]
          have s1 := step_drop hl (by omega) (!x.b.ac) Hx.out.pg0 (Nat.le_refl _)
          have s2 := s1.trans (fun M1 h1 e1 => step_b h1 (by omega) Hbo.out)
          exact ⟨_, s2.trans (fun M2 h2 e2 => step_new h2 (by omega) Hmo.out (g := 0) (by decide))⟩
        · rintro e w7 ⟨rfl, hU, hm⟩
          have HU := Lib.hid hU
          have HM := Lib.hid ((Mut.of_below (S := only a) hB6).trans hm)
          clear hU hm hC hB6
          go_wp2_with fail
          go_ret
          rw [HXX.out]
          exact ⟨rfl, HU.out, HM.out⟩
theorem uinst_any {w : World} {u a : Nat} {x : US} (h : UsAt w u a x) (hx : x.Ok) (l : List UInt8) (hl : l.length < 4294967281) (hok : ∀ m, parseL l = some m → m.Ok) : Calls Tryz.prog 14 #[.pointer (some ⟨u, 0, none⟩), .string (bs l)] w fun e w' => e = .returned (.int .i64 (x.install l).1) ∧ UsAt w' u a (x.install l).2 ∧ Mut (only a) w w' := by
  obtain ⟨a0, a2, a3, a4, a5, a1, a6, a7, hV, h0⟩ := x.b.V8
  exact uinst_x h hx l hl hok a0 a2 a3 a4 a5 a1 a6 a7 hV (by rw [h0]; cases x.b.ac <;> rfl)
end Go.Proofs.YticnmogeknlmeaaGreatDoor.B
namespace Go.Proofs.YticnmogeknlmeaaGreatDoor.B
open Go.RowKit Go.Maps Go.Proofs.YticnmogeknlmeaaGreatDoorW.PrintWords Go.Proofs.YticnmogeknlmeaaGreatDoor.Later
set_option maxRecDepth 100000
set_option maxHeartbeats 1600000
theorem info102 : (Tryz.prog.info? 102).map (fun i => (i.zero, i.size, i.bytes)) = some (some (.agg #[.int .i64 0, .int .i64 0, .int .i64 0, .int .i64 0, .int .i64 0, .int .i64 0, .string ⟨#[]⟩]), 7, 64) := by kernel_rfl
theorem chK_E : chK.E = [] := rfl
/-- A row of changes that lies in blocks from base on. -/
def ChR (w : World) (base : Nat) (v : Value) (l : List Ch) : Prop := chK.R 102 w base (fun _ => True) v l
theorem ChR.nil (w : World) (base : Nat) : ChR w base (.slice none 0 0) [] := Kd.R_nil _ _ _ _ _
theorem ChR.below {w w' : World} {base : Nat} {v : Value} {l : List Ch} (h : ChR w base v l) (hb : Below w.heap.size w w') : ChR w' base v l := Kd.R_below h hb
theorem ChR.tight {w : World} {base : Nat} {v : Value} {l : List Ch} (h : ChR w base v l) : chK.R 102 w base (fun k => some k = v.ownBlock) v l := by
  obtain ⟨h0, inner, ho, hr⟩ := h
  refine ⟨fun k hk => hk.symm, inner, ho, hr.imp_ (fun p c hp => chK.M_mono (fun k hk => ?_) (chK.M_bound hp))⟩
  obtain ⟨_, _, _, q, hq, _⟩ := hk
  rw [chK_E] at hq
  cases hq
theorem ChR.kept {w w' : World} {base : Nat} {v : Value} {l : List Ch} {S : Nat → Prop} (h : ChR w base v l) (hm : Mut S w w') (hs : ∀ k, v.ownBlock = some k → ¬ S k) : ChR w' base v l :=
  Kd.R_mono (Kd.R_step h.tight (fun k hk hlt => hm.block k hlt (hs k hk.symm))) (fun _ _ => trivial)
theorem ChR.base {w : World} {base : Nat} {v : Value} {l : List Ch} (h : ChR w base v l) {k : Nat} (hk : v.ownBlock = some k) : base ≤ k ∧ k < w.heap.size :=
  ⟨((Kd.R_bound h).1 k hk).2.1, ((Kd.R_bound h).1 k hk).2.2.1⟩
theorem ChR.reads {w : World} {base : Nat} {v : Value} {l : List Ch} (h : ChR w base v l) : ∃ A c, v = .slice A l.length c ∧ Kd.C chK w A l.length l ∧ ∀ ad, A = some ad → base ≤ ad.block := by
  obtain ⟨A, c, rfl, _, hC⟩ := Kd.R_reads h
  refine ⟨A, c, rfl, hC, fun ad e => ?_⟩
  subst e
  exact (h.base (k := ad.block) rfl).1
section
variable {ops : Array Oper} {rest : List Oper} {o : Oper} {a : Act} {Q : Exit → Act → World → Prop}
theorem append_ch {w0 W : World} (base : Nat) (hgd : o.guard = none) (s x : Operand) (ho : o.op = .call { callee := .builtin .append, args := #[s, x], argTypes := #[109, 109] }) (v : Value) (l : List Ch) (c : Ch) (hs : a.eval s = v) (hx : a.eval x = .slice (some ⟨W.heap.size, 0, none⟩) 1 1)
    (HO : ChR W base v l) (HB : Below base w0 W) (hbase : base ≤ W.heap.size) (hl : l.length ≤ 100000)
    (h : ∀ v1 w1, ChR w1 base v1 (l ++ [c]) → Below base w0 w1 → wpList Tryz.prog ops Q rest (a.put o.dst v1) w1) : wpList Tryz.prog ops Q (o :: rest) a (W.alloc (.cells c.cells.toArray 102)) := by
  refine Kd.R_append chK (w0 := w0) (W := W) base hgd s x 109 102 _ 64 ho Tryz.underlying109 info102 rfl (by decide) (by decide) v l c c.cells (fun _ => True) (fun _ => False) hs hx (chK_mkM _ _ _ c) (fun _ hk => hk.elim) (fun _ _ => trivial) HO HB hbase (by omega) ?_
  intro v1 w1 hR hB _ _
  exact h v1 w1 hR hB
end
/-- Changes at once, from slots to slots, whatever row they lie in. -/
theorem all_us2 {w : World} {u a : Nat} {x x' : US} (h : UsAt w u a x) (hx : x.Ok) (hpg : x'.pg = x.pg) {l : List Ch} (hl : l.length < 1000) (hr : ∀ M : Md, Live x.pg M x.tree → M.many = 0 → ∃ n, Step x.pg M l x'.tree n) {A : Option Addr} {c : Nat} (hC : Kd.C chK w A l.length l) (hg : ∀ ad, A = some ad → ad.block ≠ a) :
    Calls Tryz.prog 39 #[.pointer (some ⟨u, 0, none⟩), .slice A l.length c] w fun e w' => e = .returned (.int .i64 0) ∧ UsAt w' u a x' ∧ Mut (only a) w w' := by
  obtain ⟨M, h1, h2, h3⟩ := h
  obtain ⟨n, M1, r, hlv, _⟩ := hr M.begun (h3.live hx) rfl
  obtain ⟨e0, hM, hR⟩ := UsM.all (x := x) (x' := x') hpg r hlv
  have hne := h1.ne h2
  refine (all_t M l hl a u x.pg 64 A c w h2 h3.opn h1 hC hg hR).mono ?_
  rintro e w' ⟨rfl, k1, k2⟩
  rw [e0]
  exact ⟨rfl, ⟨_, by rw [hpg]; exact Blk.kept h1 k2 hne, k1, hM⟩, k2⟩
/-- What is told of the next bytes, and what there is then. -/
def US.chunk (x : US) (t : Int) (s : List UInt8) : Int × US := match x.pn with
  | none => (224, x)
  | some (m, g) => if t ≠ g then (221, x) else if s = [] ∨ m.n - g < s.length ∨ 256 < s.length ∨ (s.length % 64 ≠ 0 ∧ s.length < m.n - g) then (222, x)
    else (0, { x with im := setB x.im (!x.b.ac) (x.im (!x.b.ac) ++ s), pn := some (m, g + s.length) })
end Go.Proofs.YticnmogeknlmeaaGreatDoor.B
