/- Helper: that just a plain picture is there; walked. No condition. -/
import Derived.Test.YticnmogeknlmeaaGreatDoorNZx
namespace Go.Proofs.YticnmogeknlmeaaGreatDoor.B
open Go.RowKit Go.Maps Go.Proofs.YticnmogeknlmeaaGreatDoorW.PrintWords Go.Proofs.YticnmogeknlmeaaGreatDoor.Later
set_option maxRecDepth 100000
set_option maxHeartbeats 4000000
theorem eq34 (d : Nat) (a0 a1 b0 b1 : Int) (s t : ByteArray) (W : World) : (Op.equalIn (d + 2) 34 (.agg #[.int .i64 a0, .int .i64 a1, .string s]) (.agg #[.int .i64 b0, .int .i64 b1, .string t])).run Tryz.prog W = .ok (a0 == b0 && (a1 == b1 && (s.toList == t.toList))) W := by
  refine eqA_of (d := d + 1) Tryz.underlying34 (by kernel_rfl) ?_
  refine eqf_cons (by kernel_rfl) (by kernel_rfl) (by kernel_rfl) (run_equalIn_int W d 3 .i64 .i64 a0 b0 Tryz.underlying3) ?_
  refine eqf_cons (by kernel_rfl) (by kernel_rfl) (by kernel_rfl) (run_equalIn_int W d 3 .i64 .i64 a1 b1 Tryz.underlying3) ?_
  exact eqf_last (by kernel_rfl) (by kernel_rfl) (by kernel_rfl) (run_equalIn_string W d 9 s t Tryz.underlying9)
theorem neq34 (a0 a1 : Int) (s : ByteArray) (W : World) : (binOp .neq 34 (.agg #[.int .i64 a0, .int .i64 a1, .string s]) (.agg #[.int .i64 a0, .int .i64 a1, .string s])).run Tryz.prog W = .ok (.bool false) W := by
  rw [run_neq_struct, eq34 9998, Result.andThen_ok]
  simp
theorem neq71 (a0 a1 g : Int) (s : ByteArray) (W : World) : (binOp .neq 71 (.agg #[.int .i64 a0, .int .i64 a1, .string s, .int .i64 g]) (.agg #[.int .i64 a0, .int .i64 a1, .string s, .int .i64 g])).run Tryz.prog W = .ok (.bool false) W := by
  rw [run_neq_struct]
  have h : (Op.equalIn 10000 71 (.agg #[.int .i64 a0, .int .i64 a1, .string s, .int .i64 g]) (.agg #[.int .i64 a0, .int .i64 a1, .string s, .int .i64 g])).run Tryz.prog W = .ok ((a0 == a0 && (a1 == a1 && (s.toList == s.toList))) && g == g) W := by
    refine eqA_of (d := 9999) Tryz.underlying71 (by kernel_rfl) ?_
    refine eqf_cons (by kernel_rfl) (by kernel_rfl) (by kernel_rfl) (eq34 9997 a0 a1 a0 a1 s s W) ?_
    exact eqf_last (by kernel_rfl) (by kernel_rfl) (by kernel_rfl) (run_equalIn_int W 9998 3 .i64 .i64 g g Tryz.underlying3)
  rw [h, Result.andThen_ok]
  simp
theorem neq32 (a0 a2 a3 a4 a5 : Int) (a1 a6 a7 : Bool) (W : World) : (binOp .neq 32 (.agg #[.int .i64 a0, .bool a1, .int .i64 a2, .int .i64 a3, .int .i64 a4, .int .i64 a5, .bool a6, .bool a7]) (.agg #[.int .i64 a0, .bool a1, .int .i64 a2, .int .i64 a3, .int .i64 a4, .int .i64 a5, .bool a6, .bool a7])).run Tryz.prog W = .ok (.bool false) W := by
  rw [neq_t]
  simp
def gB (b : Bt) (s : Bool) : Bool := if s = b.ac then true else b.gd
theorem Bt.good (b : Bt) (s : Bool) : b.V[6 + sI s]? = some (.bool (gB b s)) := by
  obtain ⟨ac, tr, gd, n, ls, va, vo⟩ := b
  cases ac <;> cases s <;> rfl
theorem US.Inv.has {x : US} (h : x.Inv) (s : Bool) (hg : gB x.b s = true) : x.Has s := by
  unfold gB at hg
  by_cases e : s = x.b.ac
  · rw [e]; exact h.act
  · rw [if_neg e] at hg
    have := h.oth hg
    rwa [show (!x.b.ac) = s by cases s <;> cases hx : x.b.ac <;> simp_all] at this
theorem Pl.all (P : Pl) {W : World} {g : Nat} (K : Blk W g P.V 38) {b0 b2 b3 b4 b5 : Int} {b1 b6 b7 : Bool} (hb : P.b.V = #[.int .i64 b0, .bool b1, .int .i64 b2, .int .i64 b3, .int .i64 b4, .int .i64 b5, .bool b6, .bool b7]) :
    W.cell? ⟨g, 1, none⟩ = some (.int .i64 b0) ∧ W.cell? ⟨g, 2, none⟩ = some (.bool b1) ∧ W.cell? ⟨g, 3, none⟩ = some (.int .i64 b2) ∧ W.cell? ⟨g, 4, none⟩ = some (.int .i64 b3) ∧ W.cell? ⟨g, 5, none⟩ = some (.int .i64 b4) ∧ W.cell? ⟨g, 6, none⟩ = some (.int .i64 b5) ∧ W.cell? ⟨g, 7, none⟩ = some (.bool b6) ∧ W.cell? ⟨g, 8, none⟩ = some (.bool b7) ∧ W.cell? ⟨g, 9, none⟩ = some (.int .i64 ((P.m false).v : Int)) ∧ W.cell? ⟨g, 10, none⟩ = some (.int .i64 ((P.m false).n : Int)) ∧ W.cell? ⟨g, 11, none⟩ = some (.string (bs (P.m false).d)) ∧ W.cell? ⟨g, 12, none⟩ = some (.int .i64 ((P.m true).v : Int)) ∧ W.cell? ⟨g, 13, none⟩ = some (.int .i64 ((P.m true).n : Int)) ∧ W.cell? ⟨g, 14, none⟩ = some (.string (bs (P.m true).d)) ∧ W.cell? ⟨g, 15, none⟩ = some (.string (bs (P.im false))) ∧ W.cell? ⟨g, 16, none⟩ = some (.string (bs (P.im true))) ∧ W.cell? ⟨g, 17, none⟩ = some (.int .i64 (P.p.v : Int)) ∧ W.cell? ⟨g, 18, none⟩ = some (.int .i64 (P.p.n : Int)) ∧ W.cell? ⟨g, 19, none⟩ = some (.string (bs P.p.d)) ∧ W.cell? ⟨g, 20, none⟩ = some (.string (bs P.got)) ∧ W.cell? ⟨g, 21, none⟩ = some (.bool P.is) := by
  have e : P.V = #[.int .i64 (P.pg : Int), .int .i64 b0, .bool b1, .int .i64 b2, .int .i64 b3, .int .i64 b4, .int .i64 b5, .bool b6, .bool b7, .int .i64 ((P.m false).v : Int), .int .i64 ((P.m false).n : Int), .string (bs (P.m false).d), .int .i64 ((P.m true).v : Int), .int .i64 ((P.m true).n : Int), .string (bs (P.m true).d), .string (bs (P.im false)), .string (bs (P.im true)), .int .i64 (P.p.v : Int), .int .i64 (P.p.n : Int), .string (bs P.p.d), .string (bs P.got), .bool P.is] := by
    unfold Pl.V Pl.L
    rw [hb]
    rfl
  rw [e] at K
  exact ⟨K.cell 1, K.cell 2, K.cell 3, K.cell 4, K.cell 5, K.cell 6, K.cell 7, K.cell 8, K.cell 9, K.cell 10, K.cell 11, K.cell 12, K.cell 13, K.cell 14, K.cell 15, K.cell 16, K.cell 17, K.cell 18, K.cell 19, K.cell 20, K.cell 21⟩
theorem same_any {w : World} {u a : Nat} {P : Pl} {x : US} (hR : Rl P x) (hI : x.Inv) (h3 : x.pg = 3) (hU : UsAt w u a x) : Calls Tryz.prog 13 #[.pointer (some ⟨u, 0, none⟩), .agg P.V] w fun e w' => e = .returned (.bool true) ∧ Below w.heap.size w w' := by
  obtain ⟨b0, b2, b3, b4, b5, b1, b6, b7, hbl, hb0⟩ := P.b.V_lit
  clear hb0
  have hboot := fun W (h : UsAt W u a x) => boot_any h hI.ok.b
  rw [← hR.b, hbl] at hboot
  have Hboot := Lib.hid hboot
  have hgf := P.b.good false
  have hgt := P.b.good true
  rw [hbl] at hgf hgt
  have e6 : b6 = gB x.b false := by
    have : some (Value.bool b6) = some (Value.bool (gB P.b false)) := hgf
    rw [hR.b] at this
    injection this with this
    injection this
  have e7 : b7 = gB x.b true := by
    have : some (Value.bool b7) = some (Value.bool (gB P.b true)) := hgt
    rw [hR.b] at this
    injection this with this
    injection this
  have hprog : ∃ v n d g f, (P.is = true ∧ f = 0 ∧ v = P.p.v ∧ n = P.p.n ∧ d = P.p.d ∧ g = P.got.length ∨ P.is = false ∧ f = 224 ∧ v = 0 ∧ n = 0 ∧ d = [] ∧ g = 0) ∧ ∀ W, UsAt W u a x → Calls Tryz.prog 25 #[.pointer (some ⟨u, 0, none⟩)] W fun e w' => e = .returned (.tuple #[.agg #[.int .i64 ((v : Nat) : Int), .int .i64 ((n : Nat) : Int), .string (bs d), .int .i64 ((g : Nat) : Int)], .int .i64 f]) ∧ Below W.heap.size W w' := by
    cases hp : x.pn with
    | none => exact ⟨0, 0, [], 0, 224, .inr ⟨(hR.idle hp).1, rfl, rfl, rfl, rfl, rfl⟩, fun W h => uprog_none h hp⟩
    | some y =>
      obtain ⟨m, g⟩ := y
      obtain ⟨q1, q2, q3⟩ := hR.busy m g hp
      obtain ⟨i1, _⟩ := hI.inst m g hp
      obtain ⟨o1, o2⟩ := hI.ok.pn m g hp
      exact ⟨m.v, m.n, m.d, g, 0, .inl ⟨q1, rfl, by rw [q2], by rw [q2], by rw [q2], by rw [q3, i1]⟩, fun W h => uprog_some h hp o1 o2⟩
  obtain ⟨pv, pn, pd, pgt, pf, hpc, hpr⟩ := hprog
  have Hprog := Lib.hid hpr
  have himg : ∀ s, gB x.b s = true → ∃ m : Man, P.m s = m ∧ (P.im s).length = m.n ∧ (∀ W, UsAt W u a x → Calls Tryz.prog 26 #[.pointer (some ⟨u, 0, none⟩), .int .i64 (if s then 1 else 0)] W fun e w' => e = .returned (.tuple #[.agg #[.int .i64 (m.v : Int), .int .i64 (m.n : Int), .string (bs m.d)], .int .i64 0]) ∧ Below W.heap.size W w') ∧ (∀ W, UsAt W u a x → Calls Tryz.prog 20 #[.pointer (some ⟨u, 0, none⟩), .int .i64 (if s then 1 else 0), .int .i64 (m.n : Int)] W fun e w' => e = .returned (.tuple #[.string (bs (P.im s)), .int .i64 0]) ∧ Below W.heap.size W w') := by
    intro s hs
    obtain ⟨m, hm, hn, _⟩ := hI.has s hs
    have hmo := hI.ok.m s m hm
    refine ⟨m, by rw [hR.m, hm]; rfl, by rw [hR.im]; exact hn, fun W h => uman_some h s hm hmo, fun W h => ?_⟩
    have := uimg_any h s (x.im s) rfl (hI.ok.im s) (by omega)
    rw [hn] at this
    rw [hR.im]
    exact this
  have Himg := Lib.hid himg
  have E6 := Lib.hid e6
  have E7 := Lib.hid e7
  have hal := hU.al
  have hul := hU.ul
  have HU0 := Lib.hid hU
  have hgs := bs_size P.got
  clear hboot hgf hgt hpr himg e6 e7 hU hR hI h3
  have hB0 : Below w.heap.size w (w.alloc (.cells P.V 38)) := (Below.refl _ _).alloc (Nat.le_refl _) _
  have HB0 := Lib.hid hB0
  have K0 := Lib.hid (Blk.new w P.V 38)
  have HU1 := Lib.hid (HU0.out.below hB0)
  clear hB0
  go_enter Tryz.func13, Tryz.ntmps13
  go_upto_region 1 with fail
  generalize (w.alloc (.cells P.V 38)) = W at HB0 K0 HU1 ⊢
  go_wp2_with fail
  refine (Hboot.out _ HU1.out).mono ?_
  rintro _ w3 ⟨rfl, hB⟩
  have hba : Below w3.heap.size w3 (w3.alloc (.cells #[.int .i64 b0, .bool b1, .int .i64 b2, .int .i64 b3, .int .i64 b4, .int .i64 b5, .bool b6, .bool b7] 32)) := (Below.refl _ _).alloc (Nat.le_refl _) _
  have hB2 := hB.trans (hba.mono hB.size)
  have HB1 := Lib.hid (HB0.out.trans (hB2.mono HB0.out.size))
  have K1 := Lib.hid (K0.out.below hB2)
  have HU2 := Lib.hid (HU1.out.below hB2)
  have hq := neq32 b0 b2 b3 b4 b5 b1 b6 b7
  clear hB hba hB2
  obtain ⟨k1, k2, k3, k4, k5, k6, k7, k8, k9, k10, k11, k12, k13, k14, k15, k16, k17, k18, k19, k20, k21⟩ := P.all K1.out hbl
  clear k9 k10 k11 k12 k13 k14 k15 k16 k17 k18 k19 k20 k21
  go_upto_region 4 with fail
  clear hq k1 k2 k3 k4 k5 k6 k7 k8
  generalize (w3.alloc (.cells #[.int .i64 b0, .bool b1, .int .i64 b2, .int .i64 b3, .int .i64 b4, .int .i64 b5, .bool b6, .bool b7] 32)) = W4 at HB1 K1 HU2 ⊢
  go_wp2_with fail
  refine (Hprog.out _ HU2.out).mono ?_
  rintro _ w5 ⟨rfl, hB⟩
  have hba : Below w5.heap.size w5 (w5.alloc (.cells #[.int .i64 (pv : Int), .int .i64 (pn : Int), .string (bs pd), .int .i64 (pgt : Int)] 71)) := (Below.refl _ _).alloc (Nat.le_refl _) _
  have hB2 := hB.trans (hba.mono hB.size)
  have HB2 := Lib.hid (HB1.out.trans (hB2.mono HB1.out.size))
  have K2 := Lib.hid (K1.out.below hB2)
  have HU3 := Lib.hid (HU2.out.below hB2)
  clear hB hba hB2
  obtain ⟨k1, k2, k3, k4, k5, k6, k7, k8, k9, k10, k11, k12, k13, k14, k15, k16, k17, k18, k19, k20, k21⟩ := P.all K2.out hbl
  clear k1 k2 k3 k4 k5 k6 k7 k8 k9 k10 k11 k12 k13 k14 k15 k16
  have hq := neq71 (P.p.v : Int) (P.p.n : Int) (P.got.length : Int) (bs P.p.d)
  have hpc : (P.is = true ∧ pf = 0 ∧ pv = P.p.v ∧ pn = P.p.n ∧ pd = P.p.d ∧ pgt = P.got.length) ∨ (P.is = false ∧ pf = 224) := hpc.imp id (fun h => ⟨h.1, h.2.1⟩)
  rcases hpc with ⟨his, rfl, rfl, rfl, rfl, rfl⟩ | ⟨his, rfl⟩
  · rw [his] at k21
    go_upto_region 7 with fail
    clear k17 k18 k19 k20 k21 hq his
    generalize (w5.alloc (.cells #[.int .i64 (P.p.v : Int), .int .i64 (P.p.n : Int), .string (bs P.p.d), .int .i64 (P.got.length : Int)] 71)) = W6 at HB2 K2 HU3 ⊢
    go_wp2_with fail
    go_loopg [9] 2 (fun g' v9 wx => ∃ i : Nat, i + g' = 2 ∧ v9 = .int .i64 (i : Int) ∧ Blk wx w.heap.size P.V 38 ∧ UsAt wx u a x ∧ Below w.heap.size w wx)
    case atStart => exact ⟨0, rfl, rfl, K2.out, HU3.out, HB2.out⟩
    case round =>
      obtain ⟨i, hi, rfl, hKx, hUx, hBx⟩ := hrel
      rcases (show i = 0 ∨ i = 1 ∨ i = 2 by omega) with rfl | rfl | rfl
      · -- round 0
        have HU := Lib.hid hUx
        have HB := Lib.hid hBx
        have K := Lib.hid hKx
        clear hUx hBx hKx
        cases hgd : gB x.b false with
        | false =>
          have eb : b6 = false := by rw [E6.out, hgd]
          obtain ⟨k1, k2, k3, k4, k5, k6, k7, k8, k9, k10, k11, k12, k13, k14, k15, k16, k17, k18, k19, k20, k21⟩ := P.all K.out hbl
          rw [eb] at k7
          clear eb
          clear k1 k2 k3 k4 k5 k6 k8 k9 k10 k11 k12 k13 k14 k15 k16 k17 k18 k19 k20 k21
          go_wp2_with fail
          go_roundg 1
          case measure => omega
          case rel => exact ⟨1, by omega, rfl, K.out, HU.out, HB.out⟩
        | true =>
          have eb : b6 = true := by rw [E6.out, hgd]
          obtain ⟨m, hm, hml, hman, him⟩ := Himg.out false hgd
          have Hman := Lib.hid (fun W (h : UsAt W u a x) => (show Calls Tryz.prog 26 #[.pointer (some ⟨u, 0, none⟩), .int .i64 0] W fun e w' => e = .returned (.tuple #[.agg #[.int .i64 (m.v : Int), .int .i64 (m.n : Int), .string (bs m.d)], .int .i64 0]) ∧ Below W.heap.size W w' from hman W h))
          have Hi := Lib.hid (fun W (h : UsAt W u a x) => (show Calls Tryz.prog 20 #[.pointer (some ⟨u, 0, none⟩), .int .i64 0, .int .i64 (m.n : Int)] W fun e w' => e = .returned (.tuple #[.string (bs (P.im false)), .int .i64 0]) ∧ Below W.heap.size W w' from him W h))
          clear hman him hml
          obtain ⟨k1, k2, k3, k4, k5, k6, k7, k8, k9, k10, k11, k12, k13, k14, k15, k16, k17, k18, k19, k20, k21⟩ := P.all K.out hbl
          rw [eb] at k7
          clear eb
          clear k1 k2 k3 k4 k5 k6 k8 k9 k10 k11 k12 k13 k14 k15 k16 k17 k18 k19 k20 k21
          go_wp2_with fail
          refine (Hman.out _ HU.out).mono ?_
          rintro _ w8 ⟨rfl, hB⟩
          have hba : Below w8.heap.size w8 (w8.alloc (.cells #[.int .i64 (m.v : Int), .int .i64 (m.n : Int), .string (bs m.d)] 34)) := (Below.refl _ _).alloc (Nat.le_refl _) _
          have hB2 := hB.trans (hba.mono hB.size)
          have HB8 := Lib.hid (HB.out.trans (hB2.mono HB.out.size))
          have K8 := Lib.hid (K.out.below hB2)
          have HU8 := Lib.hid (HU.out.below hB2)
          have M8 := Lib.hid (Blk.new w8 #[.int .i64 (m.v : Int), .int .i64 (m.n : Int), .string (bs m.d)] 34)
          clear hB hba hB2 k7
          go_wp2_with fail
          refine (Hi.out _ HU8.out).mono ?_
          rintro _ w9 ⟨rfl, hB⟩
          have HB9 := Lib.hid (HB8.out.trans (hB.mono HB8.out.size))
          have K9 := Lib.hid (K8.out.below hB)
          have HU9 := Lib.hid (HU8.out.below hB)
          have M9 := Lib.hid (M8.out.below hB)
          clear hB
          obtain ⟨k1, k2, k3, k4, k5, k6, k7, k8, k9, k10, k11, k12, k13, k14, k15, k16, k17, k18, k19, k20, k21⟩ := P.all K9.out hbl
          rw [hm] at k9 k10 k11
          clear k1 k2 k3 k4 k5 k6 k7 k8 k12 k13 k14 k16 k17 k18 k19 k20 k21
          have m0 : w9.cell? ⟨w8.heap.size, 0, none⟩ = some (.int .i64 (m.v : Int)) := M9.out.cell 0
          have m1 : w9.cell? ⟨w8.heap.size, 1, none⟩ = some (.int .i64 (m.n : Int)) := M9.out.cell 1
          have m2 : w9.cell? ⟨w8.heap.size, 2, none⟩ = some (.string (bs m.d)) := M9.out.cell 2
          have hq := neq34 (m.v : Int) (m.n : Int) (bs m.d)
          go_wp2_with fail
          go_quiet (fail)
          have hbn : Below w9.heap.size w9 (w9.drewN nq) := below_drewN (Below.refl _ _) nq
          have HBn := Lib.hid (HB9.out.trans (hbn.mono HB9.out.size))
          have Kn := Lib.hid (K9.out.below hbn)
          have HUn := Lib.hid (HU9.out.below hbn)
          clear hbn k9 k10 k11 k15 m0 m1 m2 hq
          generalize (w9.drewN nq) = Wn at HBn Kn HUn ⊢
          go_wp2_with fail
          go_roundg 1
          case measure => omega
          case rel => exact ⟨1, by omega, rfl, Kn.out, HUn.out, HBn.out⟩
      · -- round 1
        have HU := Lib.hid hUx
        have HB := Lib.hid hBx
        have K := Lib.hid hKx
        clear hUx hBx hKx
        cases hgd : gB x.b true with
        | false =>
          have eb : b7 = false := by rw [E7.out, hgd]
          obtain ⟨k1, k2, k3, k4, k5, k6, k7, k8, k9, k10, k11, k12, k13, k14, k15, k16, k17, k18, k19, k20, k21⟩ := P.all K.out hbl
          rw [eb] at k8
          clear eb
          clear k1 k2 k3 k4 k5 k6 k7 k9 k10 k11 k12 k13 k14 k15 k16 k17 k18 k19 k20 k21
          go_wp2_with fail
          go_roundg 0
          case measure => omega
          case rel => exact ⟨2, by omega, rfl, K.out, HU.out, HB.out⟩
        | true =>
          have eb : b7 = true := by rw [E7.out, hgd]
          obtain ⟨m, hm, hml, hman, him⟩ := Himg.out true hgd
          have Hman := Lib.hid (fun W (h : UsAt W u a x) => (show Calls Tryz.prog 26 #[.pointer (some ⟨u, 0, none⟩), .int .i64 1] W fun e w' => e = .returned (.tuple #[.agg #[.int .i64 (m.v : Int), .int .i64 (m.n : Int), .string (bs m.d)], .int .i64 0]) ∧ Below W.heap.size W w' from hman W h))
          have Hi := Lib.hid (fun W (h : UsAt W u a x) => (show Calls Tryz.prog 20 #[.pointer (some ⟨u, 0, none⟩), .int .i64 1, .int .i64 (m.n : Int)] W fun e w' => e = .returned (.tuple #[.string (bs (P.im true)), .int .i64 0]) ∧ Below W.heap.size W w' from him W h))
          clear hman him hml
          obtain ⟨k1, k2, k3, k4, k5, k6, k7, k8, k9, k10, k11, k12, k13, k14, k15, k16, k17, k18, k19, k20, k21⟩ := P.all K.out hbl
          rw [eb] at k8
          clear eb
          clear k1 k2 k3 k4 k5 k6 k7 k9 k10 k11 k12 k13 k14 k15 k16 k17 k18 k19 k20 k21
          go_wp2_with fail
          refine (Hman.out _ HU.out).mono ?_
          rintro _ w8 ⟨rfl, hB⟩
          have hba : Below w8.heap.size w8 (w8.alloc (.cells #[.int .i64 (m.v : Int), .int .i64 (m.n : Int), .string (bs m.d)] 34)) := (Below.refl _ _).alloc (Nat.le_refl _) _
          have hB2 := hB.trans (hba.mono hB.size)
          have HB8 := Lib.hid (HB.out.trans (hB2.mono HB.out.size))
          have K8 := Lib.hid (K.out.below hB2)
          have HU8 := Lib.hid (HU.out.below hB2)
          have M8 := Lib.hid (Blk.new w8 #[.int .i64 (m.v : Int), .int .i64 (m.n : Int), .string (bs m.d)] 34)
          clear hB hba hB2 k8
          go_wp2_with fail
          refine (Hi.out _ HU8.out).mono ?_
          rintro _ w9 ⟨rfl, hB⟩
          have HB9 := Lib.hid (HB8.out.trans (hB.mono HB8.out.size))
          have K9 := Lib.hid (K8.out.below hB)
          have HU9 := Lib.hid (HU8.out.below hB)
          have M9 := Lib.hid (M8.out.below hB)
          clear hB
          obtain ⟨k1, k2, k3, k4, k5, k6, k7, k8, k9, k10, k11, k12, k13, k14, k15, k16, k17, k18, k19, k20, k21⟩ := P.all K9.out hbl
          rw [hm] at k12 k13 k14
          clear k1 k2 k3 k4 k5 k6 k7 k8 k9 k10 k11 k15 k17 k18 k19 k20 k21
          have m0 : w9.cell? ⟨w8.heap.size, 0, none⟩ = some (.int .i64 (m.v : Int)) := M9.out.cell 0
          have m1 : w9.cell? ⟨w8.heap.size, 1, none⟩ = some (.int .i64 (m.n : Int)) := M9.out.cell 1
          have m2 : w9.cell? ⟨w8.heap.size, 2, none⟩ = some (.string (bs m.d)) := M9.out.cell 2
          have hq := neq34 (m.v : Int) (m.n : Int) (bs m.d)
          go_wp2_with fail
          go_quiet (fail)
          have hbn : Below w9.heap.size w9 (w9.drewN nq) := below_drewN (Below.refl _ _) nq
          have HBn := Lib.hid (HB9.out.trans (hbn.mono HB9.out.size))
          have Kn := Lib.hid (K9.out.below hbn)
          have HUn := Lib.hid (HU9.out.below hbn)
          clear hbn k12 k13 k14 k16 m0 m1 m2 hq
          generalize (w9.drewN nq) = Wn at HBn Kn HUn ⊢
          go_wp2_with fail
          go_roundg 0
          case measure => omega
          case rel => exact ⟨2, by omega, rfl, Kn.out, HUn.out, HBn.out⟩
      · have HB := Lib.hid hBx
        clear hUx hBx hKx
        go_wp2_with fail
        go_ret
        exact ⟨rfl, HB.out⟩
  · rw [his] at k21
    go_upto_region 7 with fail
    clear k17 k18 k19 k20 k21 hq his
    generalize (w5.alloc (.cells #[.int .i64 (pv : Int), .int .i64 (pn : Int), .string (bs pd), .int .i64 (pgt : Int)] 71)) = W6 at HB2 K2 HU3 ⊢
    go_wp2_with fail
    go_loopg [9] 2 (fun g' v9 wx => ∃ i : Nat, i + g' = 2 ∧ v9 = .int .i64 (i : Int) ∧ Blk wx w.heap.size P.V 38 ∧ UsAt wx u a x ∧ Below w.heap.size w wx)
    case atStart => exact ⟨0, rfl, rfl, K2.out, HU3.out, HB2.out⟩
    case round =>
      obtain ⟨i, hi, rfl, hKx, hUx, hBx⟩ := hrel
      rcases (show i = 0 ∨ i = 1 ∨ i = 2 by omega) with rfl | rfl | rfl
      · -- round 0
        have HU := Lib.hid hUx
        have HB := Lib.hid hBx
        have K := Lib.hid hKx
        clear hUx hBx hKx
        cases hgd : gB x.b false with
        | false =>
          have eb : b6 = false := by rw [E6.out, hgd]
          obtain ⟨k1, k2, k3, k4, k5, k6, k7, k8, k9, k10, k11, k12, k13, k14, k15, k16, k17, k18, k19, k20, k21⟩ := P.all K.out hbl
          rw [eb] at k7
          clear eb
          clear k1 k2 k3 k4 k5 k6 k8 k9 k10 k11 k12 k13 k14 k15 k16 k17 k18 k19 k20 k21
          go_wp2_with fail
          go_roundg 1
          case measure => omega
          case rel => exact ⟨1, by omega, rfl, K.out, HU.out, HB.out⟩
        | true =>
          have eb : b6 = true := by rw [E6.out, hgd]
          obtain ⟨m, hm, hml, hman, him⟩ := Himg.out false hgd
          have Hman := Lib.hid (fun W (h : UsAt W u a x) => (show Calls Tryz.prog 26 #[.pointer (some ⟨u, 0, none⟩), .int .i64 0] W fun e w' => e = .returned (.tuple #[.agg #[.int .i64 (m.v : Int), .int .i64 (m.n : Int), .string (bs m.d)], .int .i64 0]) ∧ Below W.heap.size W w' from hman W h))
          have Hi := Lib.hid (fun W (h : UsAt W u a x) => (show Calls Tryz.prog 20 #[.pointer (some ⟨u, 0, none⟩), .int .i64 0, .int .i64 (m.n : Int)] W fun e w' => e = .returned (.tuple #[.string (bs (P.im false)), .int .i64 0]) ∧ Below W.heap.size W w' from him W h))
          clear hman him hml
          obtain ⟨k1, k2, k3, k4, k5, k6, k7, k8, k9, k10, k11, k12, k13, k14, k15, k16, k17, k18, k19, k20, k21⟩ := P.all K.out hbl
          rw [eb] at k7
          clear eb
          clear k1 k2 k3 k4 k5 k6 k8 k9 k10 k11 k12 k13 k14 k15 k16 k17 k18 k19 k20 k21
          go_wp2_with fail
          refine (Hman.out _ HU.out).mono ?_
          rintro _ w8 ⟨rfl, hB⟩
          have hba : Below w8.heap.size w8 (w8.alloc (.cells #[.int .i64 (m.v : Int), .int .i64 (m.n : Int), .string (bs m.d)] 34)) := (Below.refl _ _).alloc (Nat.le_refl _) _
          have hB2 := hB.trans (hba.mono hB.size)
          have HB8 := Lib.hid (HB.out.trans (hB2.mono HB.out.size))
          have K8 := Lib.hid (K.out.below hB2)
          have HU8 := Lib.hid (HU.out.below hB2)
          have M8 := Lib.hid (Blk.new w8 #[.int .i64 (m.v : Int), .int .i64 (m.n : Int), .string (bs m.d)] 34)
          clear hB hba hB2 k7
          go_wp2_with fail
          refine (Hi.out _ HU8.out).mono ?_
          rintro _ w9 ⟨rfl, hB⟩
          have HB9 := Lib.hid (HB8.out.trans (hB.mono HB8.out.size))
          have K9 := Lib.hid (K8.out.below hB)
          have HU9 := Lib.hid (HU8.out.below hB)
          have M9 := Lib.hid (M8.out.below hB)
          clear hB
          obtain ⟨k1, k2, k3, k4, k5, k6, k7, k8, k9, k10, k11, k12, k13, k14, k15, k16, k17, k18, k19, k20, k21⟩ := P.all K9.out hbl
          rw [hm] at k9 k10 k11
          clear k1 k2 k3 k4 k5 k6 k7 k8 k12 k13 k14 k16 k17 k18 k19 k20 k21
          have m0 : w9.cell? ⟨w8.heap.size, 0, none⟩ = some (.int .i64 (m.v : Int)) := M9.out.cell 0
          have m1 : w9.cell? ⟨w8.heap.size, 1, none⟩ = some (.int .i64 (m.n : Int)) := M9.out.cell 1
          have m2 : w9.cell? ⟨w8.heap.size, 2, none⟩ = some (.string (bs m.d)) := M9.out.cell 2
          have hq := neq34 (m.v : Int) (m.n : Int) (bs m.d)
          go_wp2_with fail
          go_quiet (fail)
          have hbn : Below w9.heap.size w9 (w9.drewN nq) := below_drewN (Below.refl _ _) nq
          have HBn := Lib.hid (HB9.out.trans (hbn.mono HB9.out.size))
          have Kn := Lib.hid (K9.out.below hbn)
          have HUn := Lib.hid (HU9.out.below hbn)
          clear hbn k9 k10 k11 k15 m0 m1 m2 hq
          generalize (w9.drewN nq) = Wn at HBn Kn HUn ⊢
          go_wp2_with fail
          go_roundg 1
          case measure => omega
          case rel => exact ⟨1, by omega, rfl, Kn.out, HUn.out, HBn.out⟩
      · -- round 1
        have HU := Lib.hid hUx
        have HB := Lib.hid hBx
        have K := Lib.hid hKx
        clear hUx hBx hKx
        cases hgd : gB x.b true with
        | false =>
          have eb : b7 = false := by rw [E7.out, hgd]
          obtain ⟨k1, k2, k3, k4, k5, k6, k7, k8, k9, k10, k11, k12, k13, k14, k15, k16, k17, k18, k19, k20, k21⟩ := P.all K.out hbl
          rw [eb] at k8
          clear eb
          clear k1 k2 k3 k4 k5 k6 k7 k9 k10 k11 k12 k13 k14 k15 k16 k17 k18 k19 k20 k21
          go_wp2_with fail
          go_roundg 0
          case measure => omega
          case rel => exact ⟨2, by omega, rfl, K.out, HU.out, HB.out⟩
        | true =>
          have eb : b7 = true := by rw [E7.out, hgd]
          obtain ⟨m, hm, hml, hman, him⟩ := Himg.out true hgd
          have Hman := Lib.hid (fun W (h : UsAt W u a x) => (show Calls Tryz.prog 26 #[.pointer (some ⟨u, 0, none⟩), .int .i64 1] W fun e w' => e = .returned (.tuple #[.agg #[.int .i64 (m.v : Int), .int .i64 (m.n : Int), .string (bs m.d)], .int .i64 0]) ∧ Below W.heap.size W w' from hman W h))
          have Hi := Lib.hid (fun W (h : UsAt W u a x) => (show Calls Tryz.prog 20 #[.pointer (some ⟨u, 0, none⟩), .int .i64 1, .int .i64 (m.n : Int)] W fun e w' => e = .returned (.tuple #[.string (bs (P.im true)), .int .i64 0]) ∧ Below W.heap.size W w' from him W h))
          clear hman him hml
          obtain ⟨k1, k2, k3, k4, k5, k6, k7, k8, k9, k10, k11, k12, k13, k14, k15, k16, k17, k18, k19, k20, k21⟩ := P.all K.out hbl
          rw [eb] at k8
          clear eb
          clear k1 k2 k3 k4 k5 k6 k7 k9 k10 k11 k12 k13 k14 k15 k16 k17 k18 k19 k20 k21
          go_wp2_with fail
          refine (Hman.out _ HU.out).mono ?_
          rintro _ w8 ⟨rfl, hB⟩
          have hba : Below w8.heap.size w8 (w8.alloc (.cells #[.int .i64 (m.v : Int), .int .i64 (m.n : Int), .string (bs m.d)] 34)) := (Below.refl _ _).alloc (Nat.le_refl _) _
          have hB2 := hB.trans (hba.mono hB.size)
          have HB8 := Lib.hid (HB.out.trans (hB2.mono HB.out.size))
          have K8 := Lib.hid (K.out.below hB2)
          have HU8 := Lib.hid (HU.out.below hB2)
          have M8 := Lib.hid (Blk.new w8 #[.int .i64 (m.v : Int), .int .i64 (m.n : Int), .string (bs m.d)] 34)
          clear hB hba hB2 k8
          go_wp2_with fail
          refine (Hi.out _ HU8.out).mono ?_
          rintro _ w9 ⟨rfl, hB⟩
          have HB9 := Lib.hid (HB8.out.trans (hB.mono HB8.out.size))
          have K9 := Lib.hid (K8.out.below hB)
          have HU9 := Lib.hid (HU8.out.below hB)
          have M9 := Lib.hid (M8.out.below hB)
          clear hB
          obtain ⟨k1, k2, k3, k4, k5, k6, k7, k8, k9, k10, k11, k12, k13, k14, k15, k16, k17, k18, k19, k20, k21⟩ := P.all K9.out hbl
          rw [hm] at k12 k13 k14
          clear k1 k2 k3 k4 k5 k6 k7 k8 k9 k10 k11 k15 k17 k18 k19 k20 k21
          have m0 : w9.cell? ⟨w8.heap.size, 0, none⟩ = some (.int .i64 (m.v : Int)) := M9.out.cell 0
          have m1 : w9.cell? ⟨w8.heap.size, 1, none⟩ = some (.int .i64 (m.n : Int)) := M9.out.cell 1
          have m2 : w9.cell? ⟨w8.heap.size, 2, none⟩ = some (.string (bs m.d)) := M9.out.cell 2
          have hq := neq34 (m.v : Int) (m.n : Int) (bs m.d)
          go_wp2_with fail
          go_quiet (fail)
          have hbn : Below w9.heap.size w9 (w9.drewN nq) := below_drewN (Below.refl _ _) nq
          have HBn := Lib.hid (HB9.out.trans (hbn.mono HB9.out.size))
          have Kn := Lib.hid (K9.out.below hbn)
          have HUn := Lib.hid (HU9.out.below hbn)
          clear hbn k12 k13 k14 k16 m0 m1 m2 hq
          generalize (w9.drewN nq) = Wn at HBn Kn HUn ⊢
          go_wp2_with fail
          go_roundg 0
          case measure => omega
          case rel => exact ⟨2, by omega, rfl, Kn.out, HUn.out, HBn.out⟩
      · have HB := Lib.hid hBx
        clear hUx hBx hKx
        go_wp2_with fail
        go_ret
        exact ⟨rfl, HB.out⟩
end Go.Proofs.YticnmogeknlmeaaGreatDoor.B
