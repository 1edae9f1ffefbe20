/- Helper: the plain device in memory: records done; walked. No condition. -/
import Derived.Test.YteilmbhnbmmcjaaMj
namespace Go.Proofs.Yteilmbhnbmmcjaa.B
open Go.RowKit Go.Maps Go.Proofs.YteilmbhnbmmcjaaW.PrintWords
set_option maxRecDepth 100000
set_option maxHeartbeats 1600000
theorem do1_any (r : Rc) (x : Int × Tree) (a base tp rb : Nat) (wa : World) (hab : a < base) (_hbw : base ≤ wa.heap.size) (hr : Blk wa rb r.cells 34) (hd : Calls Try.prog 47 #[.map (some tp), .agg r.cells] wa (DoPost base tp wa x)) : Calls Try.prog 46 #[.map (some tp), .pointer (some ⟨rb, 0, none⟩)] wa (CPost a base tp wa x) := by
  have c0 : wa.cell? ⟨rb, 0, none⟩ = some (.int .i64 r.k) := hr.cell 0
  have c1 : wa.cell? ⟨rb, 1, none⟩ = some (.int .i64 r.s) := hr.cell 1
  have c2 : wa.cell? ⟨rb, 2, none⟩ = some (.int .i64 r.p) := hr.cell 2
  have c3 : wa.cell? ⟨rb, 3, none⟩ = some (.int .i64 r.a) := hr.cell 3
  have c4 : wa.cell? ⟨rb, 4, none⟩ = some (.int .i64 r.t) := hr.cell 4
  have c5 : wa.cell? ⟨rb, 5, none⟩ = some (.int .i64 r.n) := hr.cell 5
  have Hd := Lib.hid hd
  clear hd
  go_enter Try.func46, Try.ntmps46
  go_wp2_with fail
  refine Hd.out.mono ?_
  rintro e w1 ⟨rfl, hB, ht⟩
  have HB := Lib.hid hB
  have HT := Lib.hid ht
  clear hB ht
  go_wp2
  go_ret
  refine ⟨rfl, ⟨HB.out.os, HB.out.tape, HB.out.output, HB.out.size, fun i _ hs => HB.out.block i (by simp at hs; omega)⟩, HT.out, fun np oo M n hbk hn => ⟨n, (HB.out.block a hab).trans hbk, hn⟩⟩
theorem call46 (rb : Nat) (W : World) (v : Value) : (callFunc 46 (#[v] ++ #[.pointer (some ⟨rb, 0, none⟩)])).run Try.prog W = .ok (.enter 46 (#[v] ++ #[.pointer (some ⟨rb, 0, none⟩)])) W := by kernel_rfl
theorem do_closed (M : Md) (a : Nat) (w : World) (h : MdAt w a M) (hO : M.opn = none) (r : Rc) (hk : 4 ≤ r.k ∧ r.k ≤ 7) : Calls Try.prog 16 #[.pointer (some ⟨a, 0, none⟩), .agg r.cells] w fun e w' => e = .returned (.int .i64 180) ∧ Below w.heap.size w w' := by
  obtain ⟨np, oo, n, hb, ht, hw, ho, hn⟩ := h
  have hB := (Below.refl w.heap.size w).alloc (Nat.le_refl _) (.cells r.cells 34)
  have c1a : (w.alloc (.cells #[.int .i64 r.k, .int .i64 r.s, .int .i64 r.p, .int .i64 r.a, .int .i64 r.t, .int .i64 r.n] 34)).cell? ⟨a, 1, none⟩ = some (.map oo) := (hb.below hB).cell 1
  have hq1 := eql92
  rw [hO] at ho
  obtain rfl : oo = none := ho
  have h2 : (r.k == 2) = false := beq_eq_false_iff_ne.2 (by omega)
  have h4 : decide (4 ≤ r.k) = true := decide_eq_true hk.1
  have h7 : decide (r.k ≤ 7) = true := decide_eq_true hk.2
  have HB := Lib.hid hB
  clear hB hb ht
  show Calls Try.prog 16 #[.pointer (some ⟨a, 0, none⟩), .agg #[.int .i64 r.k, .int .i64 r.s, .int .i64 r.p, .int .i64 r.a, .int .i64 r.t, .int .i64 r.n]] w _
  go_enter Try.func16, Try.ntmps16
  go_wp2
  all_goals go_ret
  all_goals exact ⟨rfl, HB.out⟩
theorem do_m4 (M : Md) (a : Nat) (w : World) (h : MdAt w a M) (T : Tree) (hO : M.opn = some T) (hm : 0 ≤ M.many) (r : Rc) (hk : r.k = 4) (hs : I64 r.s) (hW : r.may = true → WfT (doT T r).2) (hx : r.may = true → (doT T r).1 = 0 → (total (doT T r).2 : Int) ≤ M.pl ∧ (total (doT T r).2 : Int) ≤ M.ks ∧ total (doT T r).2 < 100000) : Calls Try.prog 16 #[.pointer (some ⟨a, 0, none⟩), .agg r.cells] w fun e w' => e = .returned (.int .i64 (if r.may then mStep M (doT T r) else (1, M)).1) ∧ MdAt w' a (if r.may then mStep M (doT T r) else (1, M)).2 ∧ Mut (only a) w w' := by
  have hmd := h
  obtain ⟨np, oo, n, hb, ht, hw, ho, hn⟩ := h
  have hal := hb.lt
  have hq1 := eql92
  rw [hO] at ho
  obtain ⟨tp, rfl, h1, h2⟩ := ho
  have hcell : r.cells = #[.int .i64 4, .int .i64 r.s, .int .i64 r.p, .int .i64 r.a, .int .i64 r.t, .int .i64 r.n] := by rw [← hk]; rfl
  have hck := check_any r
  have hB0 : Below w.heap.size w (w.alloc (.cells r.cells 34)) := (Below.refl _ _).alloc (Nat.le_refl _) _
  have c1a : (w.alloc (.cells #[.int .i64 4, .int .i64 r.s, .int .i64 r.p, .int .i64 r.a, .int .i64 r.t, .int .i64 r.n] 34)).cell? ⟨a, 1, none⟩ = some (.map (some tp)) := (hb.below ((Below.refl _ _).alloc (Nat.le_refl _) _)).cell 1
  have Hmd := Lib.hid hmd
  have HB0 := Lib.hid hB0
  have hr0 := Blk.new w r.cells 34
  have Hr0 := Lib.hid hr0
  have Hcell := Lib.hid hcell
  clear hmd hb ht h1 hB0 hr0
  rw [hcell] at hck ⊢
  clear hcell
  go_enter Try.func16, Try.ntmps16
  go_wp2_with fail
  refine (hck _).mono ?_
  rintro e w1 ⟨rfl, hB⟩
  rw [← Hcell.out] at hB
  have hrk := Hr0.out.below hB
  have d0 : w1.cell? ⟨w.heap.size, 0, none⟩ = some (.int .i64 4) := by have := hrk.cell 0; rw [Hcell.out] at this; exact this
  have HB1 := Lib.hid (HB0.out.trans (hB.mono (by simp)))
  have Hrk := Lib.hid hrk
  clear hB hrk
  cases hmay : r.may
  · go_wp2
    all_goals go_ret
    all_goals exact ⟨rfl, Hmd.out.below HB1.out, Mut.of_below HB1.out⟩
  · have HW := Lib.hid (hW hmay)
    have HX := Lib.hid (hx hmay)
    go_wp2_with fail
    refine (step_m M a w1 (Hmd.out.below HB1.out) T hO hm 46 _ (doT T r) (fun h0 => ⟨HW.out, HX.out h0⟩) (call46 _) (fun wa hT hBa => ?_)).mono ?_
    · have hsz := HB1.out.size
      refine do1_any r _ a _ _ w.heap.size wa (Nat.lt_of_lt_of_le hal hsz) hBa.size (Hrk.out.below hBa) ?_
      exact do_4 T _ _ wa hT hBa.size r hk hs HW.out
    · rintro e w2 ⟨rfl, hM2, hm2⟩
      have HM2 := Lib.hid hM2
      have Hm2 := Lib.hid hm2
      clear hM2 hm2
      go_wp2
      go_ret
      exact ⟨rfl, HM2.out, (Mut.of_below HB1.out).trans Hm2.out⟩
theorem do_m7 (M : Md) (a : Nat) (w : World) (h : MdAt w a M) (T : Tree) (hO : M.opn = some T) (hm : 0 ≤ M.many) (r : Rc) (hk : r.k = 7) (hs : I64 r.s) (hW : r.may = true → WfT (doT T r).2) (hx : r.may = true → (doT T r).1 = 0 → (total (doT T r).2 : Int) ≤ M.pl ∧ (total (doT T r).2 : Int) ≤ M.ks ∧ total (doT T r).2 < 100000) : Calls Try.prog 16 #[.pointer (some ⟨a, 0, none⟩), .agg r.cells] w fun e w' => e = .returned (.int .i64 (if r.may then mStep M (doT T r) else (1, M)).1) ∧ MdAt w' a (if r.may then mStep M (doT T r) else (1, M)).2 ∧ Mut (only a) w w' := by
  have hmd := h
  obtain ⟨np, oo, n, hb, ht, hw, ho, hn⟩ := h
  have hal := hb.lt
  have hq1 := eql92
  rw [hO] at ho
  obtain ⟨tp, rfl, h1, h2⟩ := ho
  have hcell : r.cells = #[.int .i64 7, .int .i64 r.s, .int .i64 r.p, .int .i64 r.a, .int .i64 r.t, .int .i64 r.n] := by rw [← hk]; rfl
  have hck := check_any r
  have hB0 : Below w.heap.size w (w.alloc (.cells r.cells 34)) := (Below.refl _ _).alloc (Nat.le_refl _) _
  have c1a : (w.alloc (.cells #[.int .i64 7, .int .i64 r.s, .int .i64 r.p, .int .i64 r.a, .int .i64 r.t, .int .i64 r.n] 34)).cell? ⟨a, 1, none⟩ = some (.map (some tp)) := (hb.below ((Below.refl _ _).alloc (Nat.le_refl _) _)).cell 1
  have Hmd := Lib.hid hmd
  have HB0 := Lib.hid hB0
  have hr0 := Blk.new w r.cells 34
  have Hr0 := Lib.hid hr0
  have Hcell := Lib.hid hcell
  clear hmd hb ht h1 hB0 hr0
  rw [hcell] at hck ⊢
  clear hcell
  go_enter Try.func16, Try.ntmps16
  go_wp2_with fail
  refine (hck _).mono ?_
  rintro e w1 ⟨rfl, hB⟩
  rw [← Hcell.out] at hB
  have hrk := Hr0.out.below hB
  have d0 : w1.cell? ⟨w.heap.size, 0, none⟩ = some (.int .i64 7) := by have := hrk.cell 0; rw [Hcell.out] at this; exact this
  have HB1 := Lib.hid (HB0.out.trans (hB.mono (by simp)))
  have Hrk := Lib.hid hrk
  clear hB hrk
  cases hmay : r.may
  · go_wp2
    all_goals go_ret
    all_goals exact ⟨rfl, Hmd.out.below HB1.out, Mut.of_below HB1.out⟩
  · have HW := Lib.hid (hW hmay)
    have HX := Lib.hid (hx hmay)
    go_wp2_with fail
    refine (step_m M a w1 (Hmd.out.below HB1.out) T hO hm 46 _ (doT T r) (fun h0 => ⟨HW.out, HX.out h0⟩) (call46 _) (fun wa hT hBa => ?_)).mono ?_
    · have hsz := HB1.out.size
      refine do1_any r _ a _ _ w.heap.size wa (Nat.lt_of_lt_of_le hal hsz) hBa.size (Hrk.out.below hBa) ?_
      exact do_7 T _ _ wa hT hBa.size r hk hs HW.out
    · rintro e w2 ⟨rfl, hM2, hm2⟩
      have HM2 := Lib.hid hM2
      have Hm2 := Lib.hid hm2
      clear hM2 hm2
      go_wp2
      go_ret
      exact ⟨rfl, HM2.out, (Mut.of_below HB1.out).trans Hm2.out⟩
end Go.Proofs.Yteilmbhnbmmcjaa.B
