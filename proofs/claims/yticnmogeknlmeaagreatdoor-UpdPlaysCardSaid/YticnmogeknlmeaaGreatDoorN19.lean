/- Helper: the plain device in memory: dropping and trimming; walked. what is kept of slots: checked; walked. No condition. -/
import Derived.Test.YticnmogeknlmeaaGreatDoorN18
import Derived.Test.YticnmogeknlmeaaGreatDoorN01
namespace Go.Proofs.YticnmogeknlmeaaGreatDoor.B
open Go.RowKit Go.Maps Go.Proofs.YticnmogeknlmeaaGreatDoorW.PrintWords
set_option maxRecDepth 100000
set_option maxHeartbeats 1600000
theorem do_m5 (M : Md) (a : Nat) (w : World) (h : MdAt w a M) (T : Tree) (hO : M.opn = some T) (hm : 0 ≤ M.many) (r : Rc) (hk : r.k = 5) (hs : I64 r.s) (hW : r.may = true → WfT (doT T r).2) (hx : r.may = true → (doT T r).1 = 0 → (total (doT T r).2 : Int) ≤ M.pl ∧ (total (doT T r).2 : Int) ≤ M.ks ∧ total (doT T r).2 < 100000) : Calls Tryz.prog 132 #[.pointer (some ⟨a, 0, none⟩), .agg r.cells] w fun e w' => e = .returned (.int .i64 (if r.may then mStep M (doT T r) else (1, M)).1) ∧ MdAt w' a (if r.may then mStep M (doT T r) else (1, M)).2 ∧ Mut (only a) w w' := by
  have hmd := h
  obtain ⟨np, oo, n, hb, ht, hw, ho, hn⟩ := h
  have hal := hb.lt
  have hq1 := eql92
  rw [hO] at ho
  obtain ⟨tp, rfl, h1, h2⟩ := ho
  have hcell : r.cells = #[.int .i64 5, .int .i64 r.s, .int .i64 r.p, .int .i64 r.a, .int .i64 r.t, .int .i64 r.n] := by rw [← hk]; rfl
  have hck := check_any r
  have hB0 : Below w.heap.size w (w.alloc (.cells r.cells 100)) := (Below.refl _ _).alloc (Nat.le_refl _) _
  have c1a : (w.alloc (.cells #[.int .i64 5, .int .i64 r.s, .int .i64 r.p, .int .i64 r.a, .int .i64 r.t, .int .i64 r.n] 100)).cell? ⟨a, 1, none⟩ = some (.map (some tp)) := (hb.below ((Below.refl _ _).alloc (Nat.le_refl _) _)).cell 1
  have Hmd := Lib.hid hmd
  have HB0 := Lib.hid hB0
  have hr0 := Blk.new w r.cells 100
  have Hr0 := Lib.hid hr0
  have Hcell := Lib.hid hcell
  clear hmd hb ht h1 hB0 hr0
  rw [hcell] at hck ⊢
  clear hcell
  go_enter Tryz.func132, Tryz.ntmps132
  go_wp2_with fail
  refine (hck _).mono ?_
  rintro e w1 ⟨rfl, hB⟩
  rw [← Hcell.out] at hB
  have hrk := Hr0.out.below hB
  have d0 : w1.cell? ⟨w.heap.size, 0, none⟩ = some (.int .i64 5) := by have := hrk.cell 0; rw [Hcell.out] at this; exact this
  have HB1 := Lib.hid (HB0.out.trans (hB.mono (by simp)))
  have Hrk := Lib.hid hrk
  clear hB hrk
  cases hmay : r.may
  · go_wp2
    all_goals go_ret
    all_goals exact ⟨rfl, Hmd.out.below HB1.out, Mut.of_below HB1.out⟩
  · have HW := Lib.hid (hW hmay)
    have HX := Lib.hid (hx hmay)
    go_wp2_with fail
    refine (step_m M a w1 (Hmd.out.below HB1.out) T hO hm 140 _ (doT T r) (fun h0 => ⟨HW.out, HX.out h0⟩) (call46 _) (fun wa hT hBa => ?_)).mono ?_
    · have hsz := HB1.out.size
      refine do1_any r _ a _ _ w.heap.size wa (Nat.lt_of_lt_of_le hal hsz) hBa.size (Hrk.out.below hBa) ?_
      exact do_5 T _ _ wa hT hBa.size r hk hs HW.out
    · rintro e w2 ⟨rfl, hM2, hm2⟩
      have HM2 := Lib.hid hM2
      have Hm2 := Lib.hid hm2
      clear hM2 hm2
      go_wp2
      go_ret
      exact ⟨rfl, HM2.out, (Mut.of_below HB1.out).trans Hm2.out⟩
theorem do_m2 (M : Md) (a : Nat) (w : World) (h : MdAt w a M) (T : Tree) (hO : M.opn = some T) (hm : 0 ≤ M.many) (r : Rc) (hk : r.k = 2) (hs : I64 r.s) (hp : I64 r.p) (hW : r.may = true → WfT (doT T r).2) (hx : r.may = true → (doT T r).1 = 0 → (total (doT T r).2 : Int) ≤ M.pl ∧ (total (doT T r).2 : Int) ≤ M.ks ∧ total (doT T r).2 < 100000) : Calls Tryz.prog 132 #[.pointer (some ⟨a, 0, none⟩), .agg r.cells] w fun e w' => e = .returned (.int .i64 (if r.may then (if mayE T r.s ≠ 0 then (mayE T r.s, M) else mStep M (doT T r)) else (1, M)).1) ∧ MdAt w' a (if r.may then (if mayE T r.s ≠ 0 then (mayE T r.s, M) else mStep M (doT T r)) else (1, M)).2 ∧ Mut (only a) w w' := by
  obtain ⟨X, hXe⟩ : ∃ X, X = (if r.may then (if mayE T r.s ≠ 0 then (mayE T r.s, M) else mStep M (doT T r)) else (1, M)) := ⟨_, rfl⟩
  rw [← hXe]
  have HXe := Lib.hid hXe
  clear hXe
  have hmd := h
  obtain ⟨np, oo, n, hb, ht, hw, ho, hn⟩ := h
  have hal := hb.lt
  have hq1 := eql92
  rw [hO] at ho
  obtain ⟨tp, rfl, h1, h2⟩ := ho
  have hcell : r.cells = #[.int .i64 2, .int .i64 r.s, .int .i64 r.p, .int .i64 r.a, .int .i64 r.t, .int .i64 r.n] := by rw [← hk]; rfl
  have hck := check_any r
  have hB0 : Below w.heap.size w (w.alloc (.cells r.cells 100)) := (Below.refl _ _).alloc (Nat.le_refl _) _
  have c1a : (w.alloc (.cells #[.int .i64 2, .int .i64 r.s, .int .i64 r.p, .int .i64 r.a, .int .i64 r.t, .int .i64 r.n] 100)).cell? ⟨a, 1, none⟩ = some (.map (some tp)) := (hb.below ((Below.refl _ _).alloc (Nat.le_refl _) _)).cell 1
  have Hmd := Lib.hid hmd
  have Hb := Lib.hid hb
  have H1 := Lib.hid h1
  have HB0 := Lib.hid hB0
  have hr0 := Blk.new w r.cells 100
  have Hr0 := Lib.hid hr0
  have Hcell := Lib.hid hcell
  clear hmd hb ht h1 hB0 hr0
  rw [hcell] at hck ⊢
  clear hcell
  go_enter Tryz.func132, Tryz.ntmps132
  go_wp2_with fail
  refine (hck _).mono ?_
  rintro e w1 ⟨rfl, hB⟩
  rw [← Hcell.out] at hB
  have hrk := Hr0.out.below hB
  have d0 : w1.cell? ⟨w.heap.size, 0, none⟩ = some (.int .i64 2) := by have := hrk.cell 0; rw [Hcell.out] at this; exact this
  have HB1 := Lib.hid (HB0.out.trans (hB.mono (by simp)))
  have Hrk := Lib.hid hrk
  clear hB hrk
  cases hmay : r.may
  · go_wp2
    all_goals go_ret
    all_goals (have hX := HXe.out; rw [hmay, if_neg (by decide)] at hX; rw [hX]; exact ⟨rfl, Hmd.out.below HB1.out, Mut.of_below HB1.out⟩)
  · have HW := Lib.hid (hW hmay)
    have HX := Lib.hid (hx hmay)
    have hb1 := Hb.out.below HB1.out
    have e1 : w1.cell? ⟨a, 1, none⟩ = some (.map (some tp)) := hb1.cell 1
    have hr1 := Hrk.out
    rw [Hcell.out] at hr1
    have d1 : w1.cell? ⟨w.heap.size, 1, none⟩ = some (.int .i64 r.s) := hr1.cell 1
    have H1b := Lib.hid (H1.out.below HB1.out)
    clear hb1 hr1
    go_wp2_with fail
    go_still_tail 6, (by kernel_rfl)
    go_wp2_with fail
    refine (may_any T 0 tp _ (H1b.out.below (below_drewN (Below.refl _ _) 1)) r.s hs).mono ?_
    rintro e w3 ⟨rfl, hB3⟩
    have hB13 : Below w1.heap.size w1 w3 := (below_drewN (Below.refl w1.heap.size w1) 1).trans hB3
    have HB3 := Lib.hid (HB1.out.trans (hB13.mono HB1.out.size))
    have Hrk3 := Lib.hid (Hrk.out.below hB13)
    clear hB13 hB3 e1 d1 d0
    by_cases hmy : mayE T r.s = 0
    · have hmb : (mayE T r.s != 0) = false := by simp [hmy]
      have Hmy := Lib.hid hmy
      clear hmy
      go_wp2_with fail
      refine (step_m M a w3 (Hmd.out.below HB3.out) T hO hm 140 _ (doT T r) (fun h0 => ⟨HW.out, HX.out h0⟩) (call46 _) (fun wa hT hBa => ?_)).mono ?_
      · have hsz := HB3.out.size
        refine do1_any r _ a _ _ w.heap.size wa (Nat.lt_of_lt_of_le hal hsz) hBa.size (Hrk3.out.below hBa) ?_
        exact do_2 T _ _ wa hT hBa.size r hk hs hp HW.out
      · rintro e w2 ⟨rfl, hM2, hm2⟩
        have HM2 := Lib.hid hM2
        have Hm2 := Lib.hid hm2
        clear hM2 hm2
        go_wp2
        go_ret
        have hX := HXe.out
        rw [hmay, if_pos rfl, if_neg (by simp [Hmy.out])] at hX
        rw [hX]
        exact ⟨rfl, HM2.out, (Mut.of_below HB3.out).trans Hm2.out⟩
    · have hmb : (mayE T r.s != 0) = true := bne_iff_ne.2 hmy
      go_wp2
      go_ret
      have hX := HXe.out
      rw [hmay, if_pos rfl, if_pos hmy] at hX
      rw [hX]
      exact ⟨rfl, Hmd.out.below HB3.out, Mut.of_below HB3.out⟩
end Go.Proofs.YticnmogeknlmeaaGreatDoor.B
namespace Go.Proofs.YticnmogeknlmeaaGreatDoor.B
open Go.RowKit Go.Proofs.YticnmogeknlmeaaGreatDoorW.PrintWords
set_option maxRecDepth 100000
set_option maxHeartbeats 1600000
/-- What is kept of two slots: which is active, whether on trial, whether the other one is good, tries, the least version, both versions. -/
structure Bt where
  ac : Bool
  tr : Bool
  gd : Bool
  n : Nat
  ls : Nat
  va : Nat
  vo : Nat
def Bt.V (b : Bt) : Array Value := match b.ac with
  | false => #[.int .i64 0, .bool b.tr, .int .i64 b.n, .int .i64 b.ls, .int .i64 b.va, .int .i64 b.vo, .bool true, .bool b.gd]
  | true => #[.int .i64 1, .bool b.tr, .int .i64 b.n, .int .i64 b.ls, .int .i64 b.vo, .int .i64 b.va, .bool b.gd, .bool true]
structure Bt.Ok (b : Bt) : Prop where
  n7 : b.n ≤ 7
  l1 : 1 ≤ b.ls
  lM : b.ls ≤ 1073741824
  a0 : b.ls ≤ b.va
  aM : b.va ≤ 1073741824
  oM : b.vo ≤ 1073741824
  t0 : b.tr = false → b.n = 0
  t1 : b.tr = true → b.gd = true ∧ b.ls ≤ b.vo

theorem tcheck_fff (ls va vo : Int) (h1 : 1 ≤ ls) (hM : ls ≤ 1073741824) (ha : ls ≤ va) (hA : va ≤ 1073741824) (ho : 0 ≤ vo) (hO : vo ≤ 1073741824) (w : World) : Calls Tryz.prog 70 #[.agg #[.int .i64 0, .bool false, .int .i64 0, .int .i64 ls, .int .i64 va, .int .i64 vo, .bool true, .bool false]] w fun e w' => e = .returned (.bool true) ∧ Below w.heap.size w w' := by
  have l1 : decide (ls < 1) = false := decide_eq_false (by omega)
  have lM : decide (1073741824 < ls) = false := decide_eq_false (by omega)
  have a0 : decide (va < 0) = false := decide_eq_false (by omega)
  have aM : decide (1073741824 < va) = false := decide_eq_false (by omega)
  have al : decide (va < ls) = false := decide_eq_false (by omega)
  have o0 : decide (vo < 0) = false := decide_eq_false (by omega)
  have oM : decide (1073741824 < vo) = false := decide_eq_false (by omega)
  have HB := Lib.hid ((Below.refl w.heap.size w).alloc (Nat.le_refl _) (.cells #[.int .i64 0, .bool false, .int .i64 0, .int .i64 ls, .int .i64 va, .int .i64 vo, .bool true, .bool false] 32))
  clear h1 hM ha hA ho hO
  go_enter Tryz.func70, Tryz.ntmps70
  go_wp2_with fail
  go_loopg [3, 4, 43] 2 (fun g x y z wx => ∃ i : Nat, i + g = 2 ∧ z = .int .i64 (i : Int) ∧ wx = w.alloc (.cells #[.int .i64 0, .bool false, .int .i64 0, .int .i64 ls, .int .i64 va, .int .i64 vo, .bool true, .bool false] 32))
  case atStart => exact ⟨0, by omega, rfl, rfl⟩
  case round =>
    obtain ⟨i, hi, rfl, rfl⟩ := hrel
    cases gk with
    | zero =>
      obtain rfl : i = 2 := by omega
      go_wp2_with fail
      go_ret
      exact ⟨rfl, HB.out⟩
    | succ g =>
      rcases (show i = 0 ∨ i = 1 by omega) with rfl | rfl
      · go_wp2_with fail
        go_roundg g
        case measure => omega
        case rel => exact ⟨1, by omega, rfl, rfl⟩
      · go_wp2_with fail
        go_roundg g
        case measure => omega
        case rel => exact ⟨2, by omega, rfl, rfl⟩
theorem tcheck_fft (ls va vo : Int) (h1 : 1 ≤ ls) (hM : ls ≤ 1073741824) (ha : ls ≤ va) (hA : va ≤ 1073741824) (ho : 0 ≤ vo) (hO : vo ≤ 1073741824) (w : World) : Calls Tryz.prog 70 #[.agg #[.int .i64 0, .bool false, .int .i64 0, .int .i64 ls, .int .i64 va, .int .i64 vo, .bool true, .bool true]] w fun e w' => e = .returned (.bool true) ∧ Below w.heap.size w w' := by
  have l1 : decide (ls < 1) = false := decide_eq_false (by omega)
  have lM : decide (1073741824 < ls) = false := decide_eq_false (by omega)
  have a0 : decide (va < 0) = false := decide_eq_false (by omega)
  have aM : decide (1073741824 < va) = false := decide_eq_false (by omega)
  have al : decide (va < ls) = false := decide_eq_false (by omega)
  have o0 : decide (vo < 0) = false := decide_eq_false (by omega)
  have oM : decide (1073741824 < vo) = false := decide_eq_false (by omega)
  have HB := Lib.hid ((Below.refl w.heap.size w).alloc (Nat.le_refl _) (.cells #[.int .i64 0, .bool false, .int .i64 0, .int .i64 ls, .int .i64 va, .int .i64 vo, .bool true, .bool true] 32))
  clear h1 hM ha hA ho hO
  go_enter Tryz.func70, Tryz.ntmps70
  go_wp2_with fail
  go_loopg [3, 4, 43] 2 (fun g x y z wx => ∃ i : Nat, i + g = 2 ∧ z = .int .i64 (i : Int) ∧ wx = w.alloc (.cells #[.int .i64 0, .bool false, .int .i64 0, .int .i64 ls, .int .i64 va, .int .i64 vo, .bool true, .bool true] 32))
  case atStart => exact ⟨0, by omega, rfl, rfl⟩
  case round =>
    obtain ⟨i, hi, rfl, rfl⟩ := hrel
    cases gk with
    | zero =>
      obtain rfl : i = 2 := by omega
      go_wp2_with fail
      go_ret
      exact ⟨rfl, HB.out⟩
    | succ g =>
      rcases (show i = 0 ∨ i = 1 by omega) with rfl | rfl
      · cases hd : decide (vo < ls)
        · go_wp2_with fail
          go_roundg g
          case measure => omega
          case rel => exact ⟨1, by omega, rfl, rfl⟩
        · go_wp2_with fail
          go_roundg g
          case measure => omega
          case rel => exact ⟨1, by omega, rfl, rfl⟩
      · cases hd : decide (vo < ls)
        · go_wp2_with fail
          go_roundg g
          case measure => omega
          case rel => exact ⟨2, by omega, rfl, rfl⟩
        · go_wp2_with fail
          go_roundg g
          case measure => omega
          case rel => exact ⟨2, by omega, rfl, rfl⟩
theorem tcheck_ftt (n ls va vo : Int) (h0 : 0 ≤ n) (h7 : n ≤ 7) (h1 : 1 ≤ ls) (hM : ls ≤ 1073741824) (ha : ls ≤ va) (hA : va ≤ 1073741824) (ho : 0 ≤ vo) (hO : vo ≤ 1073741824) (hl : ls ≤ vo) (w : World) : Calls Tryz.prog 70 #[.agg #[.int .i64 0, .bool true, .int .i64 n, .int .i64 ls, .int .i64 va, .int .i64 vo, .bool true, .bool true]] w fun e w' => e = .returned (.bool true) ∧ Below w.heap.size w w' := by
  have n0 : decide (n < 0) = false := decide_eq_false (by omega)
  have n7 : decide (7 < n) = false := decide_eq_false (by omega)
  have l1 : decide (ls < 1) = false := decide_eq_false (by omega)
  have lM : decide (1073741824 < ls) = false := decide_eq_false (by omega)
  have a0 : decide (va < 0) = false := decide_eq_false (by omega)
  have aM : decide (1073741824 < va) = false := decide_eq_false (by omega)
  have al : decide (va < ls) = false := decide_eq_false (by omega)
  have o0 : decide (vo < 0) = false := decide_eq_false (by omega)
  have oM : decide (1073741824 < vo) = false := decide_eq_false (by omega)
  have ol : decide (vo < ls) = false := decide_eq_false (by omega)
  have HB := Lib.hid ((Below.refl w.heap.size w).alloc (Nat.le_refl _) (.cells #[.int .i64 0, .bool true, .int .i64 n, .int .i64 ls, .int .i64 va, .int .i64 vo, .bool true, .bool true] 32))
  clear h1 hM ha hA ho hO h0 h7 hl
  go_enter Tryz.func70, Tryz.ntmps70
  go_wp2_with fail
  go_loopg [3, 4, 43] 2 (fun g x y z wx => ∃ i : Nat, i + g = 2 ∧ z = .int .i64 (i : Int) ∧ wx = w.alloc (.cells #[.int .i64 0, .bool true, .int .i64 n, .int .i64 ls, .int .i64 va, .int .i64 vo, .bool true, .bool true] 32))
  case atStart => exact ⟨0, by omega, rfl, rfl⟩
  case round =>
    obtain ⟨i, hi, rfl, rfl⟩ := hrel
    cases gk with
    | zero =>
      obtain rfl : i = 2 := by omega
      go_wp2_with fail
      go_ret
      exact ⟨rfl, HB.out⟩
    | succ g =>
      rcases (show i = 0 ∨ i = 1 by omega) with rfl | rfl
      · go_wp2_with fail
        go_roundg g
        case measure => omega
        case rel => exact ⟨1, by omega, rfl, rfl⟩
      · go_wp2_with fail
        go_roundg g
        case measure => omega
        case rel => exact ⟨2, by omega, rfl, rfl⟩
theorem tcheck_tff (ls va vo : Int) (h1 : 1 ≤ ls) (hM : ls ≤ 1073741824) (ha : ls ≤ va) (hA : va ≤ 1073741824) (ho : 0 ≤ vo) (hO : vo ≤ 1073741824) (w : World) : Calls Tryz.prog 70 #[.agg #[.int .i64 1, .bool false, .int .i64 0, .int .i64 ls, .int .i64 vo, .int .i64 va, .bool false, .bool true]] w fun e w' => e = .returned (.bool true) ∧ Below w.heap.size w w' := by
  have l1 : decide (ls < 1) = false := decide_eq_false (by omega)
  have lM : decide (1073741824 < ls) = false := decide_eq_false (by omega)
  have a0 : decide (va < 0) = false := decide_eq_false (by omega)
  have aM : decide (1073741824 < va) = false := decide_eq_false (by omega)
  have al : decide (va < ls) = false := decide_eq_false (by omega)
  have o0 : decide (vo < 0) = false := decide_eq_false (by omega)
  have oM : decide (1073741824 < vo) = false := decide_eq_false (by omega)
  have HB := Lib.hid ((Below.refl w.heap.size w).alloc (Nat.le_refl _) (.cells #[.int .i64 1, .bool false, .int .i64 0, .int .i64 ls, .int .i64 vo, .int .i64 va, .bool false, .bool true] 32))
  clear h1 hM ha hA ho hO
  go_enter Tryz.func70, Tryz.ntmps70
  go_wp2_with fail
  go_loopg [3, 4, 43] 2 (fun g x y z wx => ∃ i : Nat, i + g = 2 ∧ z = .int .i64 (i : Int) ∧ wx = w.alloc (.cells #[.int .i64 1, .bool false, .int .i64 0, .int .i64 ls, .int .i64 vo, .int .i64 va, .bool false, .bool true] 32))
  case atStart => exact ⟨0, by omega, rfl, rfl⟩
  case round =>
    obtain ⟨i, hi, rfl, rfl⟩ := hrel
    cases gk with
    | zero =>
      obtain rfl : i = 2 := by omega
      go_wp2_with fail
      go_ret
      exact ⟨rfl, HB.out⟩
    | succ g =>
      rcases (show i = 0 ∨ i = 1 by omega) with rfl | rfl
      · go_wp2_with fail
        go_roundg g
        case measure => omega
        case rel => exact ⟨1, by omega, rfl, rfl⟩
      · go_wp2_with fail
        go_roundg g
        case measure => omega
        case rel => exact ⟨2, by omega, rfl, rfl⟩
theorem tcheck_tft (ls va vo : Int) (h1 : 1 ≤ ls) (hM : ls ≤ 1073741824) (ha : ls ≤ va) (hA : va ≤ 1073741824) (ho : 0 ≤ vo) (hO : vo ≤ 1073741824) (w : World) : Calls Tryz.prog 70 #[.agg #[.int .i64 1, .bool false, .int .i64 0, .int .i64 ls, .int .i64 vo, .int .i64 va, .bool true, .bool true]] w fun e w' => e = .returned (.bool true) ∧ Below w.heap.size w w' := by
  have l1 : decide (ls < 1) = false := decide_eq_false (by omega)
  have lM : decide (1073741824 < ls) = false := decide_eq_false (by omega)
  have a0 : decide (va < 0) = false := decide_eq_false (by omega)
  have aM : decide (1073741824 < va) = false := decide_eq_false (by omega)
  have al : decide (va < ls) = false := decide_eq_false (by omega)
  have o0 : decide (vo < 0) = false := decide_eq_false (by omega)
  have oM : decide (1073741824 < vo) = false := decide_eq_false (by omega)
  have HB := Lib.hid ((Below.refl w.heap.size w).alloc (Nat.le_refl _) (.cells #[.int .i64 1, .bool false, .int .i64 0, .int .i64 ls, .int .i64 vo, .int .i64 va, .bool true, .bool true] 32))
  clear h1 hM ha hA ho hO
  go_enter Tryz.func70, Tryz.ntmps70
  go_wp2_with fail
  go_loopg [3, 4, 43] 2 (fun g x y z wx => ∃ i : Nat, i + g = 2 ∧ z = .int .i64 (i : Int) ∧ wx = w.alloc (.cells #[.int .i64 1, .bool false, .int .i64 0, .int .i64 ls, .int .i64 vo, .int .i64 va, .bool true, .bool true] 32))
  case atStart => exact ⟨0, by omega, rfl, rfl⟩
  case round =>
    obtain ⟨i, hi, rfl, rfl⟩ := hrel
    cases gk with
    | zero =>
      obtain rfl : i = 2 := by omega
      go_wp2_with fail
      go_ret
      exact ⟨rfl, HB.out⟩
    | succ g =>
      rcases (show i = 0 ∨ i = 1 by omega) with rfl | rfl
      · cases hd : decide (vo < ls)
        · go_wp2_with fail
          go_roundg g
          case measure => omega
          case rel => exact ⟨1, by omega, rfl, rfl⟩
        · go_wp2_with fail
          go_roundg g
          case measure => omega
          case rel => exact ⟨1, by omega, rfl, rfl⟩
      · cases hd : decide (vo < ls)
        · go_wp2_with fail
          go_roundg g
          case measure => omega
          case rel => exact ⟨2, by omega, rfl, rfl⟩
        · go_wp2_with fail
          go_roundg g
          case measure => omega
          case rel => exact ⟨2, by omega, rfl, rfl⟩
theorem tcheck_ttt (n ls va vo : Int) (h0 : 0 ≤ n) (h7 : n ≤ 7) (h1 : 1 ≤ ls) (hM : ls ≤ 1073741824) (ha : ls ≤ va) (hA : va ≤ 1073741824) (ho : 0 ≤ vo) (hO : vo ≤ 1073741824) (hl : ls ≤ vo) (w : World) : Calls Tryz.prog 70 #[.agg #[.int .i64 1, .bool true, .int .i64 n, .int .i64 ls, .int .i64 vo, .int .i64 va, .bool true, .bool true]] w fun e w' => e = .returned (.bool true) ∧ Below w.heap.size w w' := by
  have n0 : decide (n < 0) = false := decide_eq_false (by omega)
  have n7 : decide (7 < n) = false := decide_eq_false (by omega)
  have l1 : decide (ls < 1) = false := decide_eq_false (by omega)
  have lM : decide (1073741824 < ls) = false := decide_eq_false (by omega)
  have a0 : decide (va < 0) = false := decide_eq_false (by omega)
  have aM : decide (1073741824 < va) = false := decide_eq_false (by omega)
  have al : decide (va < ls) = false := decide_eq_false (by omega)
  have o0 : decide (vo < 0) = false := decide_eq_false (by omega)
  have oM : decide (1073741824 < vo) = false := decide_eq_false (by omega)
  have ol : decide (vo < ls) = false := decide_eq_false (by omega)
  have HB := Lib.hid ((Below.refl w.heap.size w).alloc (Nat.le_refl _) (.cells #[.int .i64 1, .bool true, .int .i64 n, .int .i64 ls, .int .i64 vo, .int .i64 va, .bool true, .bool true] 32))
  clear h1 hM ha hA ho hO h0 h7 hl
  go_enter Tryz.func70, Tryz.ntmps70
  go_wp2_with fail
  go_loopg [3, 4, 43] 2 (fun g x y z wx => ∃ i : Nat, i + g = 2 ∧ z = .int .i64 (i : Int) ∧ wx = w.alloc (.cells #[.int .i64 1, .bool true, .int .i64 n, .int .i64 ls, .int .i64 vo, .int .i64 va, .bool true, .bool true] 32))
  case atStart => exact ⟨0, by omega, rfl, rfl⟩
  case round =>
    obtain ⟨i, hi, rfl, rfl⟩ := hrel
    cases gk with
    | zero =>
      obtain rfl : i = 2 := by omega
      go_wp2_with fail
      go_ret
      exact ⟨rfl, HB.out⟩
    | succ g =>
      rcases (show i = 0 ∨ i = 1 by omega) with rfl | rfl
      · go_wp2_with fail
        go_roundg g
        case measure => omega
        case rel => exact ⟨1, by omega, rfl, rfl⟩
      · go_wp2_with fail
        go_roundg g
        case measure => omega
        case rel => exact ⟨2, by omega, rfl, rfl⟩
theorem tcheck_any (b : Bt) (h : b.Ok) (w : World) : Calls Tryz.prog 70 #[.agg b.V] w fun e w' => e = .returned (.bool true) ∧ Below w.heap.size w w' := by
  obtain ⟨ac, tr, gd, n, ls, va, vo⟩ := b
  obtain ⟨n7, l1, lM, a0, aM, oM, t0, t1⟩ := h
  dsimp only at *
  cases tr with
  | false =>
    obtain rfl := t0 rfl
    cases ac <;> cases gd
    · exact tcheck_fff ls va vo (by omega) (by omega) (by omega) (by omega) (by omega) (by omega) w
    · exact tcheck_fft ls va vo (by omega) (by omega) (by omega) (by omega) (by omega) (by omega) w
    · exact tcheck_tff ls va vo (by omega) (by omega) (by omega) (by omega) (by omega) (by omega) w
    · exact tcheck_tft ls va vo (by omega) (by omega) (by omega) (by omega) (by omega) (by omega) w
  | true =>
    obtain ⟨rfl, hl⟩ := t1 rfl
    cases ac
    · exact tcheck_ftt n ls va vo (by omega) (by omega) (by omega) (by omega) (by omega) (by omega) (by omega) (by omega) (by omega) w
    · exact tcheck_ttt n ls va vo (by omega) (by omega) (by omega) (by omega) (by omega) (by omega) (by omega) (by omega) (by omega) w
end Go.Proofs.YticnmogeknlmeaaGreatDoor.B
