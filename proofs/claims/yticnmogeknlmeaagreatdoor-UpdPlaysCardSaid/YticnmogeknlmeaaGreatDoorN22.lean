/- Helper: the document's check of what is kept, its states and acts; walked. No condition. -/
import Derived.Test.YticnmogeknlmeaaGreatDoorN21
namespace Go.Proofs.YticnmogeknlmeaaGreatDoor.B
open Go.RowKit Go.Proofs.YticnmogeknlmeaaGreatDoorW.PrintWords
set_option maxRecDepth 100000
set_option maxHeartbeats 1600000
theorem rcheck_fff (ls va vo : Int) (h1 : 1 ≤ ls) (hM : ls ≤ 1073741824) (ha : ls ≤ va) (hA : va ≤ 1073741824) (ho : 0 ≤ vo) (hO : vo ≤ 1073741824) (w : World) : Calls Tryz.prog 63 #[.agg #[.int .i64 0, .bool false, .int .i64 0, .int .i64 ls, .int .i64 va, .int .i64 vo, .bool true, .bool false]] w fun e w' => e = .returned (.bool true) ∧ Below w.heap.size w w' := by
  have l1 : decide (ls < 1) = false := decide_eq_false (by omega)
  have lM : decide (1073741824 < ls) = false := decide_eq_false (by omega)
  have a0 : decide (va < 0) = false := decide_eq_false (by omega)
  have aM : decide (1073741824 < va) = false := decide_eq_false (by omega)
  have al : decide (va < ls) = false := decide_eq_false (by omega)
  have o0 : decide (vo < 0) = false := decide_eq_false (by omega)
  have oM : decide (1073741824 < vo) = false := decide_eq_false (by omega)
  have HB := Lib.hid ((Below.refl w.heap.size w).alloc (Nat.le_refl _) (.cells #[.int .i64 0, .bool false, .int .i64 0, .int .i64 ls, .int .i64 va, .int .i64 vo, .bool true, .bool false] 32))
  have K1 := Lib.hid (Blk.new w #[.int .i64 0, .bool false, .int .i64 0, .int .i64 ls, .int .i64 va, .int .i64 vo, .bool true, .bool false] 32)
  clear h1 hM ha hA ho hO
  go_enter Tryz.func63, Tryz.ntmps63
  go_wp2_with fail
  go_loopg [3] 2 (fun g z wx => ∃ i : Nat, i + g = 2 ∧ z = .int .i64 (i : Int) ∧ Blk wx w.heap.size #[.int .i64 0, .bool false, .int .i64 0, .int .i64 ls, .int .i64 va, .int .i64 vo, .bool true, .bool false] 32 ∧ Below w.heap.size w wx)
  case atStart => exact ⟨0, by omega, rfl, K1.out, HB.out⟩
  case round =>
    obtain ⟨i, hi, rfl, k1, hb⟩ := hrel
    have K1 := Lib.hid k1
    have HB := Lib.hid hb
    clear k1 hb
    obtain ⟨a0, a1, a2, a3, a4, a5, a6, a7⟩ := cells8 K1.out
    cases gk with
    | zero =>
      obtain rfl : i = 2 := by omega
      go_wp2_with fail
      go_ret
      exact ⟨rfl, HB.out⟩
    | succ g =>
      rcases (show i = 0 ∨ i = 1 by omega) with rfl | rfl
      · go_wp2_with fail
        go_quiet (fail)
        have hb : Below w.heap.size w (World.drewN _ nq) := below_drewN HB.out nq
        have k1 : Blk (World.drewN _ nq) w.heap.size #[.int .i64 0, .bool false, .int .i64 0, .int .i64 ls, .int .i64 va, .int .i64 vo, .bool true, .bool false] 32 := K1.out
        revert hb k1
        generalize hw2 : World.drewN _ nq = w2
        intro hb k1
        go_wp2_with fail
        go_roundg g
        case measure => omega
        case rel => exact ⟨1, by omega, rfl, k1, hb⟩
      · go_wp2_with fail
        go_roundg g
        case measure => omega
        case rel => exact ⟨2, by omega, rfl, K1.out, HB.out⟩
theorem rcheck_fft (ls va vo : Int) (h1 : 1 ≤ ls) (hM : ls ≤ 1073741824) (ha : ls ≤ va) (hA : va ≤ 1073741824) (ho : 0 ≤ vo) (hO : vo ≤ 1073741824) (w : World) : Calls Tryz.prog 63 #[.agg #[.int .i64 0, .bool false, .int .i64 0, .int .i64 ls, .int .i64 va, .int .i64 vo, .bool true, .bool true]] w fun e w' => e = .returned (.bool true) ∧ Below w.heap.size w w' := by
  have l1 : decide (ls < 1) = false := decide_eq_false (by omega)
  have lM : decide (1073741824 < ls) = false := decide_eq_false (by omega)
  have a0 : decide (va < 0) = false := decide_eq_false (by omega)
  have aM : decide (1073741824 < va) = false := decide_eq_false (by omega)
  have al : decide (va < ls) = false := decide_eq_false (by omega)
  have o0 : decide (vo < 0) = false := decide_eq_false (by omega)
  have oM : decide (1073741824 < vo) = false := decide_eq_false (by omega)
  have HB := Lib.hid ((Below.refl w.heap.size w).alloc (Nat.le_refl _) (.cells #[.int .i64 0, .bool false, .int .i64 0, .int .i64 ls, .int .i64 va, .int .i64 vo, .bool true, .bool true] 32))
  have K1 := Lib.hid (Blk.new w #[.int .i64 0, .bool false, .int .i64 0, .int .i64 ls, .int .i64 va, .int .i64 vo, .bool true, .bool true] 32)
  clear h1 hM ha hA ho hO
  go_enter Tryz.func63, Tryz.ntmps63
  go_wp2_with fail
  go_loopg [3] 2 (fun g z wx => ∃ i : Nat, i + g = 2 ∧ z = .int .i64 (i : Int) ∧ Blk wx w.heap.size #[.int .i64 0, .bool false, .int .i64 0, .int .i64 ls, .int .i64 va, .int .i64 vo, .bool true, .bool true] 32 ∧ Below w.heap.size w wx)
  case atStart => exact ⟨0, by omega, rfl, K1.out, HB.out⟩
  case round =>
    obtain ⟨i, hi, rfl, k1, hb⟩ := hrel
    have K1 := Lib.hid k1
    have HB := Lib.hid hb
    clear k1 hb
    obtain ⟨a0, a1, a2, a3, a4, a5, a6, a7⟩ := cells8 K1.out
    cases gk with
    | zero =>
      obtain rfl : i = 2 := by omega
      go_wp2_with fail
      go_ret
      exact ⟨rfl, HB.out⟩
    | succ g =>
      rcases (show i = 0 ∨ i = 1 by omega) with rfl | rfl
      · go_wp2_with fail
        go_quiet (fail)
        have hb : Below w.heap.size w (World.drewN _ nq) := below_drewN HB.out nq
        have k1 : Blk (World.drewN _ nq) w.heap.size #[.int .i64 0, .bool false, .int .i64 0, .int .i64 ls, .int .i64 va, .int .i64 vo, .bool true, .bool true] 32 := K1.out
        revert hb k1
        generalize hw2 : World.drewN _ nq = w2
        intro hb k1
        go_wp2_with fail
        go_roundg g
        case measure => omega
        case rel => exact ⟨1, by omega, rfl, k1, hb⟩
      · go_wp2_with fail
        go_roundg g
        case measure => omega
        case rel => exact ⟨2, by omega, rfl, K1.out, HB.out⟩
theorem rcheck_ftt (n ls va vo : Int) (h0 : 0 ≤ n) (h7 : n ≤ 7) (h1 : 1 ≤ ls) (hM : ls ≤ 1073741824) (ha : ls ≤ va) (hA : va ≤ 1073741824) (ho : 0 ≤ vo) (hO : vo ≤ 1073741824) (hl : ls ≤ vo) (w : World) : Calls Tryz.prog 63 #[.agg #[.int .i64 0, .bool true, .int .i64 n, .int .i64 ls, .int .i64 va, .int .i64 vo, .bool true, .bool true]] w fun e w' => e = .returned (.bool true) ∧ Below w.heap.size w w' := by
  have n0 : decide (n < 0) = false := decide_eq_false (by omega)
  have n7 : decide (7 < n) = false := decide_eq_false (by omega)
  have l1 : decide (ls < 1) = false := decide_eq_false (by omega)
  have lM : decide (1073741824 < ls) = false := decide_eq_false (by omega)
  have a0 : decide (va < 0) = false := decide_eq_false (by omega)
  have aM : decide (1073741824 < va) = false := decide_eq_false (by omega)
  have al : decide (va < ls) = false := decide_eq_false (by omega)
  have o0 : decide (vo < 0) = false := decide_eq_false (by omega)
  have oM : decide (1073741824 < vo) = false := decide_eq_false (by omega)
  have ol : decide (vo < ls) = false := decide_eq_false (by omega)
  have HB := Lib.hid ((Below.refl w.heap.size w).alloc (Nat.le_refl _) (.cells #[.int .i64 0, .bool true, .int .i64 n, .int .i64 ls, .int .i64 va, .int .i64 vo, .bool true, .bool true] 32))
  have K1 := Lib.hid (Blk.new w #[.int .i64 0, .bool true, .int .i64 n, .int .i64 ls, .int .i64 va, .int .i64 vo, .bool true, .bool true] 32)
  clear h1 hM ha hA ho hO h0 h7 hl
  go_enter Tryz.func63, Tryz.ntmps63
  go_wp2_with fail
  go_loopg [3] 2 (fun g z wx => ∃ i : Nat, i + g = 2 ∧ z = .int .i64 (i : Int) ∧ Blk wx w.heap.size #[.int .i64 0, .bool true, .int .i64 n, .int .i64 ls, .int .i64 va, .int .i64 vo, .bool true, .bool true] 32 ∧ Below w.heap.size w wx)
  case atStart => exact ⟨0, by omega, rfl, K1.out, HB.out⟩
  case round =>
    obtain ⟨i, hi, rfl, k1, hb⟩ := hrel
    have K1 := Lib.hid k1
    have HB := Lib.hid hb
    clear k1 hb
    obtain ⟨a0, a1, a2, a3, a4, a5, a6, a7⟩ := cells8 K1.out
    cases gk with
    | zero =>
      obtain rfl : i = 2 := by omega
      go_wp2_with fail
      go_ret
      exact ⟨rfl, HB.out⟩
    | succ g =>
      rcases (show i = 0 ∨ i = 1 by omega) with rfl | rfl
      · go_wp2_with fail
        go_quiet (fail)
        have hb : Below w.heap.size w (World.drewN _ nq) := below_drewN HB.out nq
        have k1 : Blk (World.drewN _ nq) w.heap.size #[.int .i64 0, .bool true, .int .i64 n, .int .i64 ls, .int .i64 va, .int .i64 vo, .bool true, .bool true] 32 := K1.out
        revert hb k1
        generalize hw2 : World.drewN _ nq = w2
        intro hb k1
        go_wp2_with fail
        go_roundg g
        case measure => omega
        case rel => exact ⟨1, by omega, rfl, k1, hb⟩
      · go_wp2_with fail
        go_quiet (fail)
        have hb : Below w.heap.size w (World.drewN _ nq) := below_drewN HB.out nq
        have k1 : Blk (World.drewN _ nq) w.heap.size #[.int .i64 0, .bool true, .int .i64 n, .int .i64 ls, .int .i64 va, .int .i64 vo, .bool true, .bool true] 32 := K1.out
        revert hb k1
        generalize hw2 : World.drewN _ nq = w2
        intro hb k1
        go_wp2_with fail
        go_roundg g
        case measure => omega
        case rel => exact ⟨2, by omega, rfl, k1, hb⟩
theorem rcheck_tff (ls va vo : Int) (h1 : 1 ≤ ls) (hM : ls ≤ 1073741824) (ha : ls ≤ va) (hA : va ≤ 1073741824) (ho : 0 ≤ vo) (hO : vo ≤ 1073741824) (w : World) : Calls Tryz.prog 63 #[.agg #[.int .i64 1, .bool false, .int .i64 0, .int .i64 ls, .int .i64 vo, .int .i64 va, .bool false, .bool true]] w fun e w' => e = .returned (.bool true) ∧ Below w.heap.size w w' := by
  have l1 : decide (ls < 1) = false := decide_eq_false (by omega)
  have lM : decide (1073741824 < ls) = false := decide_eq_false (by omega)
  have a0 : decide (va < 0) = false := decide_eq_false (by omega)
  have aM : decide (1073741824 < va) = false := decide_eq_false (by omega)
  have al : decide (va < ls) = false := decide_eq_false (by omega)
  have o0 : decide (vo < 0) = false := decide_eq_false (by omega)
  have oM : decide (1073741824 < vo) = false := decide_eq_false (by omega)
  have HB := Lib.hid ((Below.refl w.heap.size w).alloc (Nat.le_refl _) (.cells #[.int .i64 1, .bool false, .int .i64 0, .int .i64 ls, .int .i64 vo, .int .i64 va, .bool false, .bool true] 32))
  have K1 := Lib.hid (Blk.new w #[.int .i64 1, .bool false, .int .i64 0, .int .i64 ls, .int .i64 vo, .int .i64 va, .bool false, .bool true] 32)
  clear h1 hM ha hA ho hO
  go_enter Tryz.func63, Tryz.ntmps63
  go_wp2_with fail
  go_loopg [3] 2 (fun g z wx => ∃ i : Nat, i + g = 2 ∧ z = .int .i64 (i : Int) ∧ Blk wx w.heap.size #[.int .i64 1, .bool false, .int .i64 0, .int .i64 ls, .int .i64 vo, .int .i64 va, .bool false, .bool true] 32 ∧ Below w.heap.size w wx)
  case atStart => exact ⟨0, by omega, rfl, K1.out, HB.out⟩
  case round =>
    obtain ⟨i, hi, rfl, k1, hb⟩ := hrel
    have K1 := Lib.hid k1
    have HB := Lib.hid hb
    clear k1 hb
    obtain ⟨a0, a1, a2, a3, a4, a5, a6, a7⟩ := cells8 K1.out
    cases gk with
    | zero =>
      obtain rfl : i = 2 := by omega
      go_wp2_with fail
      go_ret
      exact ⟨rfl, HB.out⟩
    | succ g =>
      rcases (show i = 0 ∨ i = 1 by omega) with rfl | rfl
      · go_wp2_with fail
        go_roundg g
        case measure => omega
        case rel => exact ⟨1, by omega, rfl, K1.out, HB.out⟩
      · go_wp2_with fail
        go_quiet (fail)
        have hb : Below w.heap.size w (World.drewN _ nq) := below_drewN HB.out nq
        have k1 : Blk (World.drewN _ nq) w.heap.size #[.int .i64 1, .bool false, .int .i64 0, .int .i64 ls, .int .i64 vo, .int .i64 va, .bool false, .bool true] 32 := K1.out
        revert hb k1
        generalize hw2 : World.drewN _ nq = w2
        intro hb k1
        go_wp2_with fail
        go_roundg g
        case measure => omega
        case rel => exact ⟨2, by omega, rfl, k1, hb⟩
theorem rcheck_tft (ls va vo : Int) (h1 : 1 ≤ ls) (hM : ls ≤ 1073741824) (ha : ls ≤ va) (hA : va ≤ 1073741824) (ho : 0 ≤ vo) (hO : vo ≤ 1073741824) (w : World) : Calls Tryz.prog 63 #[.agg #[.int .i64 1, .bool false, .int .i64 0, .int .i64 ls, .int .i64 vo, .int .i64 va, .bool true, .bool true]] w fun e w' => e = .returned (.bool true) ∧ Below w.heap.size w w' := by
  have l1 : decide (ls < 1) = false := decide_eq_false (by omega)
  have lM : decide (1073741824 < ls) = false := decide_eq_false (by omega)
  have a0 : decide (va < 0) = false := decide_eq_false (by omega)
  have aM : decide (1073741824 < va) = false := decide_eq_false (by omega)
  have al : decide (va < ls) = false := decide_eq_false (by omega)
  have o0 : decide (vo < 0) = false := decide_eq_false (by omega)
  have oM : decide (1073741824 < vo) = false := decide_eq_false (by omega)
  have HB := Lib.hid ((Below.refl w.heap.size w).alloc (Nat.le_refl _) (.cells #[.int .i64 1, .bool false, .int .i64 0, .int .i64 ls, .int .i64 vo, .int .i64 va, .bool true, .bool true] 32))
  have K1 := Lib.hid (Blk.new w #[.int .i64 1, .bool false, .int .i64 0, .int .i64 ls, .int .i64 vo, .int .i64 va, .bool true, .bool true] 32)
  clear h1 hM ha hA ho hO
  go_enter Tryz.func63, Tryz.ntmps63
  go_wp2_with fail
  go_loopg [3] 2 (fun g z wx => ∃ i : Nat, i + g = 2 ∧ z = .int .i64 (i : Int) ∧ Blk wx w.heap.size #[.int .i64 1, .bool false, .int .i64 0, .int .i64 ls, .int .i64 vo, .int .i64 va, .bool true, .bool true] 32 ∧ Below w.heap.size w wx)
  case atStart => exact ⟨0, by omega, rfl, K1.out, HB.out⟩
  case round =>
    obtain ⟨i, hi, rfl, k1, hb⟩ := hrel
    have K1 := Lib.hid k1
    have HB := Lib.hid hb
    clear k1 hb
    obtain ⟨a0, a1, a2, a3, a4, a5, a6, a7⟩ := cells8 K1.out
    cases gk with
    | zero =>
      obtain rfl : i = 2 := by omega
      go_wp2_with fail
      go_ret
      exact ⟨rfl, HB.out⟩
    | succ g =>
      rcases (show i = 0 ∨ i = 1 by omega) with rfl | rfl
      · go_wp2_with fail
        go_roundg g
        case measure => omega
        case rel => exact ⟨1, by omega, rfl, K1.out, HB.out⟩
      · go_wp2_with fail
        go_quiet (fail)
        have hb : Below w.heap.size w (World.drewN _ nq) := below_drewN HB.out nq
        have k1 : Blk (World.drewN _ nq) w.heap.size #[.int .i64 1, .bool false, .int .i64 0, .int .i64 ls, .int .i64 vo, .int .i64 va, .bool true, .bool true] 32 := K1.out
        revert hb k1
        generalize hw2 : World.drewN _ nq = w2
        intro hb k1
        go_wp2_with fail
        go_roundg g
        case measure => omega
        case rel => exact ⟨2, by omega, rfl, k1, hb⟩
theorem rcheck_ttt (n ls va vo : Int) (h0 : 0 ≤ n) (h7 : n ≤ 7) (h1 : 1 ≤ ls) (hM : ls ≤ 1073741824) (ha : ls ≤ va) (hA : va ≤ 1073741824) (ho : 0 ≤ vo) (hO : vo ≤ 1073741824) (hl : ls ≤ vo) (w : World) : Calls Tryz.prog 63 #[.agg #[.int .i64 1, .bool true, .int .i64 n, .int .i64 ls, .int .i64 vo, .int .i64 va, .bool true, .bool true]] w fun e w' => e = .returned (.bool true) ∧ Below w.heap.size w w' := by
  have n0 : decide (n < 0) = false := decide_eq_false (by omega)
  have n7 : decide (7 < n) = false := decide_eq_false (by omega)
  have l1 : decide (ls < 1) = false := decide_eq_false (by omega)
  have lM : decide (1073741824 < ls) = false := decide_eq_false (by omega)
  have a0 : decide (va < 0) = false := decide_eq_false (by omega)
  have aM : decide (1073741824 < va) = false := decide_eq_false (by omega)
  have al : decide (va < ls) = false := decide_eq_false (by omega)
  have o0 : decide (vo < 0) = false := decide_eq_false (by omega)
  have oM : decide (1073741824 < vo) = false := decide_eq_false (by omega)
  have ol : decide (vo < ls) = false := decide_eq_false (by omega)
  have HB := Lib.hid ((Below.refl w.heap.size w).alloc (Nat.le_refl _) (.cells #[.int .i64 1, .bool true, .int .i64 n, .int .i64 ls, .int .i64 vo, .int .i64 va, .bool true, .bool true] 32))
  have K1 := Lib.hid (Blk.new w #[.int .i64 1, .bool true, .int .i64 n, .int .i64 ls, .int .i64 vo, .int .i64 va, .bool true, .bool true] 32)
  clear h1 hM ha hA ho hO h0 h7 hl
  go_enter Tryz.func63, Tryz.ntmps63
  go_wp2_with fail
  go_loopg [3] 2 (fun g z wx => ∃ i : Nat, i + g = 2 ∧ z = .int .i64 (i : Int) ∧ Blk wx w.heap.size #[.int .i64 1, .bool true, .int .i64 n, .int .i64 ls, .int .i64 vo, .int .i64 va, .bool true, .bool true] 32 ∧ Below w.heap.size w wx)
  case atStart => exact ⟨0, by omega, rfl, K1.out, HB.out⟩
  case round =>
    obtain ⟨i, hi, rfl, k1, hb⟩ := hrel
    have K1 := Lib.hid k1
    have HB := Lib.hid hb
    clear k1 hb
    obtain ⟨a0, a1, a2, a3, a4, a5, a6, a7⟩ := cells8 K1.out
    cases gk with
    | zero =>
      obtain rfl : i = 2 := by omega
      go_wp2_with fail
      go_ret
      exact ⟨rfl, HB.out⟩
    | succ g =>
      rcases (show i = 0 ∨ i = 1 by omega) with rfl | rfl
      · go_wp2_with fail
        go_quiet (fail)
        have hb : Below w.heap.size w (World.drewN _ nq) := below_drewN HB.out nq
        have k1 : Blk (World.drewN _ nq) w.heap.size #[.int .i64 1, .bool true, .int .i64 n, .int .i64 ls, .int .i64 vo, .int .i64 va, .bool true, .bool true] 32 := K1.out
        revert hb k1
        generalize hw2 : World.drewN _ nq = w2
        intro hb k1
        go_wp2_with fail
        go_roundg g
        case measure => omega
        case rel => exact ⟨1, by omega, rfl, k1, hb⟩
      · go_wp2_with fail
        go_quiet (fail)
        have hb : Below w.heap.size w (World.drewN _ nq) := below_drewN HB.out nq
        have k1 : Blk (World.drewN _ nq) w.heap.size #[.int .i64 1, .bool true, .int .i64 n, .int .i64 ls, .int .i64 vo, .int .i64 va, .bool true, .bool true] 32 := K1.out
        revert hb k1
        generalize hw2 : World.drewN _ nq = w2
        intro hb k1
        go_wp2_with fail
        go_roundg g
        case measure => omega
        case rel => exact ⟨2, by omega, rfl, k1, hb⟩
theorem rcheck_any (b : Bt) (h : b.Ok) (w : World) : Calls Tryz.prog 63 #[.agg b.V] w fun e w' => e = .returned (.bool true) ∧ Below w.heap.size w w' := by
  obtain ⟨ac, tr, gd, n, ls, va, vo⟩ := b
  obtain ⟨n7, l1, lM, a0, aM, oM, t0, t1⟩ := h
  dsimp only at *
  cases tr with
  | false =>
    obtain rfl := t0 rfl
    cases ac <;> cases gd
    · exact rcheck_fff ls va vo (by omega) (by omega) (by omega) (by omega) (by omega) (by omega) w
    · exact rcheck_fft ls va vo (by omega) (by omega) (by omega) (by omega) (by omega) (by omega) w
    · exact rcheck_tff ls va vo (by omega) (by omega) (by omega) (by omega) (by omega) (by omega) w
    · exact rcheck_tft ls va vo (by omega) (by omega) (by omega) (by omega) (by omega) (by omega) w
  | true =>
    obtain ⟨rfl, hl⟩ := t1 rfl
    cases ac
    · exact rcheck_ftt n ls va vo (by omega) (by omega) (by omega) (by omega) (by omega) (by omega) (by omega) (by omega) (by omega) w
    · exact rcheck_ttt n ls va vo (by omega) (by omega) (by omega) (by omega) (by omega) (by omega) (by omega) (by omega) (by omega) w
theorem rstate_f_last (ls va vo : Int) (gd : Bool) (w : World) : Calls Tryz.prog 64 #[.agg #[.int .i64 0, .bool true, .int .i64 0, .int .i64 ls, .int .i64 va, .int .i64 vo, .bool true, .bool gd]] w fun e w' => e = .returned (.int .i64 3) ∧ Below w.heap.size w w' := by
  have HB := Lib.hid ((Below.refl w.heap.size w).alloc (Nat.le_refl _) (.cells #[.int .i64 0, .bool true, .int .i64 0, .int .i64 ls, .int .i64 va, .int .i64 vo, .bool true, .bool gd] 32))
  go_enter Tryz.func64, Tryz.ntmps64
  go_wp2_with fail
  go_ret
  exact ⟨rfl, HB.out⟩

theorem rstate_f_trial (ls va vo : Int) (n : Int) (gd : Bool) (h : decide (0 < n) = true) (w : World) : Calls Tryz.prog 64 #[.agg #[.int .i64 0, .bool true, .int .i64 n, .int .i64 ls, .int .i64 va, .int .i64 vo, .bool true, .bool gd]] w fun e w' => e = .returned (.int .i64 2) ∧ Below w.heap.size w w' := by
  have HB := Lib.hid ((Below.refl w.heap.size w).alloc (Nat.le_refl _) (.cells #[.int .i64 0, .bool true, .int .i64 n, .int .i64 ls, .int .i64 va, .int .i64 vo, .bool true, .bool gd] 32))
  go_enter Tryz.func64, Tryz.ntmps64
  go_wp2_with fail
  go_ret
  exact ⟨rfl, HB.out⟩

theorem rstate_f_ready (ls va vo : Int) (n : Int) (w : World) : Calls Tryz.prog 64 #[.agg #[.int .i64 0, .bool false, .int .i64 n, .int .i64 ls, .int .i64 va, .int .i64 vo, .bool true, .bool true]] w fun e w' => e = .returned (.int .i64 1) ∧ Below w.heap.size w w' := by
  have HB := Lib.hid ((Below.refl w.heap.size w).alloc (Nat.le_refl _) (.cells #[.int .i64 0, .bool false, .int .i64 n, .int .i64 ls, .int .i64 va, .int .i64 vo, .bool true, .bool true] 32))
  go_enter Tryz.func64, Tryz.ntmps64
  go_wp2_with fail
  go_ret
  exact ⟨rfl, HB.out⟩

theorem rstate_f_plain (ls va vo : Int) (n : Int) (w : World) : Calls Tryz.prog 64 #[.agg #[.int .i64 0, .bool false, .int .i64 n, .int .i64 ls, .int .i64 va, .int .i64 vo, .bool true, .bool false]] w fun e w' => e = .returned (.int .i64 0) ∧ Below w.heap.size w w' := by
  have HB := Lib.hid ((Below.refl w.heap.size w).alloc (Nat.le_refl _) (.cells #[.int .i64 0, .bool false, .int .i64 n, .int .i64 ls, .int .i64 va, .int .i64 vo, .bool true, .bool false] 32))
  go_enter Tryz.func64, Tryz.ntmps64
  go_wp2_with fail
  go_ret
  exact ⟨rfl, HB.out⟩

theorem rstarted_f (gd : Bool) (ls va vo : Int) (w : World) : Calls Tryz.prog 65 #[.agg #[.int .i64 0, .bool true, .int .i64 0, .int .i64 ls, .int .i64 va, .int .i64 vo, .bool true, .bool gd]] w fun e w' => e = .returned (.tuple #[.agg #[.int .i64 1, .bool false, .int .i64 0, .int .i64 ls, .int .i64 va, .int .i64 vo, .bool false, .bool gd], .int .i64 0]) ∧ Below w.heap.size w w' := by
  go_enter Tryz.func65, Tryz.ntmps65
  go_wp2_with fail
  have hk := Blk.new (w.alloc (.cells #[.int .i64 1, .bool false, .int .i64 0, .int .i64 ls, .int .i64 va, .int .i64 vo, .bool false, .bool gd] 32)) #[.int .i64 1, .bool false, .int .i64 0, .int .i64 ls, .int .i64 va, .int .i64 vo, .bool false, .bool gd] 32
  rw [show (w.alloc (.cells #[.int .i64 1, .bool false, .int .i64 0, .int .i64 ls, .int .i64 va, .int .i64 vo, .bool false, .bool gd] 32)).heap.size = w.heap.size + 1 by simp] at hk
  refine bodyPost_ret (results_ct (p := 2) (u := 3) (ty := 32) (by kernel_rfl) _ _ (w.heap.size + 1) 32 #[.int .i64 1, .bool false, .int .i64 0, .int .i64 ls, .int .i64 va, .int .i64 vo, .bool false, .bool gd] _ rfl hk Tryz.underlying32 rfl (by kernel_rfl)) rfl ?_
  exact ⟨rfl, ((Below.refl _ _).alloc (Nat.le_refl _) _).alloc (by simp) _⟩

theorem rstate_t_last (ls va vo : Int) (gd : Bool) (w : World) : Calls Tryz.prog 64 #[.agg #[.int .i64 1, .bool true, .int .i64 0, .int .i64 ls, .int .i64 vo, .int .i64 va, .bool gd, .bool true]] w fun e w' => e = .returned (.int .i64 3) ∧ Below w.heap.size w w' := by
  have HB := Lib.hid ((Below.refl w.heap.size w).alloc (Nat.le_refl _) (.cells #[.int .i64 1, .bool true, .int .i64 0, .int .i64 ls, .int .i64 vo, .int .i64 va, .bool gd, .bool true] 32))
  go_enter Tryz.func64, Tryz.ntmps64
  go_wp2_with fail
  go_ret
  exact ⟨rfl, HB.out⟩

theorem rstate_t_trial (ls va vo : Int) (n : Int) (gd : Bool) (h : decide (0 < n) = true) (w : World) : Calls Tryz.prog 64 #[.agg #[.int .i64 1, .bool true, .int .i64 n, .int .i64 ls, .int .i64 vo, .int .i64 va, .bool gd, .bool true]] w fun e w' => e = .returned (.int .i64 2) ∧ Below w.heap.size w w' := by
  have HB := Lib.hid ((Below.refl w.heap.size w).alloc (Nat.le_refl _) (.cells #[.int .i64 1, .bool true, .int .i64 n, .int .i64 ls, .int .i64 vo, .int .i64 va, .bool gd, .bool true] 32))
  go_enter Tryz.func64, Tryz.ntmps64
  go_wp2_with fail
  go_ret
  exact ⟨rfl, HB.out⟩

theorem rstate_t_ready (ls va vo : Int) (n : Int) (w : World) : Calls Tryz.prog 64 #[.agg #[.int .i64 1, .bool false, .int .i64 n, .int .i64 ls, .int .i64 vo, .int .i64 va, .bool true, .bool true]] w fun e w' => e = .returned (.int .i64 1) ∧ Below w.heap.size w w' := by
  have HB := Lib.hid ((Below.refl w.heap.size w).alloc (Nat.le_refl _) (.cells #[.int .i64 1, .bool false, .int .i64 n, .int .i64 ls, .int .i64 vo, .int .i64 va, .bool true, .bool true] 32))
  go_enter Tryz.func64, Tryz.ntmps64
  go_wp2_with fail
  go_ret
  exact ⟨rfl, HB.out⟩

theorem rstate_t_plain (ls va vo : Int) (n : Int) (w : World) : Calls Tryz.prog 64 #[.agg #[.int .i64 1, .bool false, .int .i64 n, .int .i64 ls, .int .i64 vo, .int .i64 va, .bool false, .bool true]] w fun e w' => e = .returned (.int .i64 0) ∧ Below w.heap.size w w' := by
  have HB := Lib.hid ((Below.refl w.heap.size w).alloc (Nat.le_refl _) (.cells #[.int .i64 1, .bool false, .int .i64 n, .int .i64 ls, .int .i64 vo, .int .i64 va, .bool false, .bool true] 32))
  go_enter Tryz.func64, Tryz.ntmps64
  go_wp2_with fail
  go_ret
  exact ⟨rfl, HB.out⟩

theorem rstarted_t (gd : Bool) (ls va vo : Int) (w : World) : Calls Tryz.prog 65 #[.agg #[.int .i64 1, .bool true, .int .i64 0, .int .i64 ls, .int .i64 vo, .int .i64 va, .bool gd, .bool true]] w fun e w' => e = .returned (.tuple #[.agg #[.int .i64 0, .bool false, .int .i64 0, .int .i64 ls, .int .i64 vo, .int .i64 va, .bool gd, .bool false], .int .i64 0]) ∧ Below w.heap.size w w' := by
  go_enter Tryz.func65, Tryz.ntmps65
  go_wp2_with fail
  have hk := Blk.new (w.alloc (.cells #[.int .i64 0, .bool false, .int .i64 0, .int .i64 ls, .int .i64 vo, .int .i64 va, .bool gd, .bool false] 32)) #[.int .i64 0, .bool false, .int .i64 0, .int .i64 ls, .int .i64 vo, .int .i64 va, .bool gd, .bool false] 32
  rw [show (w.alloc (.cells #[.int .i64 0, .bool false, .int .i64 0, .int .i64 ls, .int .i64 vo, .int .i64 va, .bool gd, .bool false] 32)).heap.size = w.heap.size + 1 by simp] at hk
  refine bodyPost_ret (results_ct (p := 2) (u := 3) (ty := 32) (by kernel_rfl) _ _ (w.heap.size + 1) 32 #[.int .i64 0, .bool false, .int .i64 0, .int .i64 ls, .int .i64 vo, .int .i64 va, .bool gd, .bool false] _ rfl hk Tryz.underlying32 rfl (by kernel_rfl)) rfl ?_
  exact ⟨rfl, ((Below.refl _ _).alloc (Nat.le_refl _) _).alloc (by simp) _⟩

theorem ract0_f_tr (gd : Bool) (n ls va vo v : Int) (hc : ∀ w, Calls Tryz.prog 63 #[.agg #[.int .i64 0, .bool true, .int .i64 n, .int .i64 ls, .int .i64 va, .int .i64 vo, .bool true, .bool gd]] w fun e w' => e = .returned (.bool true) ∧ Below w.heap.size w w') (w : World) : Calls Tryz.prog 36 #[.agg #[.int .i64 0, .bool true, .int .i64 n, .int .i64 ls, .int .i64 va, .int .i64 vo, .bool true, .bool gd], .int .i64 0, .int .i64 v] w fun e w' => e = .returned (.tuple #[.agg #[.int .i64 0, .bool false, .int .i64 0, .int .i64 0, .int .i64 0, .int .i64 0, .bool false, .bool false], .int .i64 211]) ∧ Below w.heap.size w w' := by
  have hb0 := bits01
  have hb1 := bits11
  go_enter Tryz.func36, Tryz.ntmps36
  go_wp2_with fail
  refine (hc _).mono ?_
  rintro e w1 ⟨rfl, hB⟩
  obtain ⟨k1, k2, hB⟩ := two8 hB
  have K1 := Lib.hid k1
  have K2 := Lib.hid k2
  have HB := Lib.hid hB
  clear hB k1 k2
  obtain ⟨a0, a1, a2, a3, a4, a5, a6, a7⟩ := cells8 K1.out
  obtain ⟨b0, b1, b2, b3, b4, b5, b6, b7⟩ := cells8 K2.out
  have fa := fun i => Blk.free K1.out i
  have fb := fun i => Blk.free K2.out i
  go_wp2_with fail
  refine bodyPost_ret (results_ct (p := 6) (u := 7) (ty := 32) (by kernel_rfl) _ _ (w.heap.size + 1) 32 #[.int .i64 0, .bool false, .int .i64 0, .int .i64 0, .int .i64 0, .int .i64 0, .bool false, .bool false] _ rfl (blk_put8 K2.out (.int .i64 0) (.bool false) (.int .i64 0) (.int .i64 0) (.int .i64 0) (.int .i64 0) (.bool false) (.bool false)) Tryz.underlying32 rfl (by kernel_rfl)) rfl ?_
  exact ⟨rfl, below_put8 HB.out (by omega) _ _ _ _ _ _ _ _⟩
theorem ract0_f_old (gd : Bool) (n ls va vo v : Int) (hc : ∀ w, Calls Tryz.prog 63 #[.agg #[.int .i64 0, .bool false, .int .i64 n, .int .i64 ls, .int .i64 va, .int .i64 vo, .bool true, .bool gd]] w fun e w' => e = .returned (.bool true) ∧ Below w.heap.size w w') (h1 : decide (v < ls) = true) (w : World) : Calls Tryz.prog 36 #[.agg #[.int .i64 0, .bool false, .int .i64 n, .int .i64 ls, .int .i64 va, .int .i64 vo, .bool true, .bool gd], .int .i64 0, .int .i64 v] w fun e w' => e = .returned (.tuple #[.agg #[.int .i64 0, .bool false, .int .i64 0, .int .i64 0, .int .i64 0, .int .i64 0, .bool false, .bool false], .int .i64 210]) ∧ Below w.heap.size w w' := by
  have hb0 := bits01
  have hb1 := bits11
  go_enter Tryz.func36, Tryz.ntmps36
  go_wp2_with fail
  refine (hc _).mono ?_
  rintro e w1 ⟨rfl, hB⟩
  obtain ⟨k1, k2, hB⟩ := two8 hB
  have K1 := Lib.hid k1
  have K2 := Lib.hid k2
  have HB := Lib.hid hB
  clear hB k1 k2
  obtain ⟨a0, a1, a2, a3, a4, a5, a6, a7⟩ := cells8 K1.out
  obtain ⟨b0, b1, b2, b3, b4, b5, b6, b7⟩ := cells8 K2.out
  have fa := fun i => Blk.free K1.out i
  have fb := fun i => Blk.free K2.out i
  go_wp2_with fail
  refine bodyPost_ret (results_ct (p := 6) (u := 7) (ty := 32) (by kernel_rfl) _ _ (w.heap.size + 1) 32 #[.int .i64 0, .bool false, .int .i64 0, .int .i64 0, .int .i64 0, .int .i64 0, .bool false, .bool false] _ rfl (blk_put8 K2.out (.int .i64 0) (.bool false) (.int .i64 0) (.int .i64 0) (.int .i64 0) (.int .i64 0) (.bool false) (.bool false)) Tryz.underlying32 rfl (by kernel_rfl)) rfl ?_
  exact ⟨rfl, below_put8 HB.out (by omega) _ _ _ _ _ _ _ _⟩
theorem ract0_f_far (gd : Bool) (n ls va vo v : Int) (hc : ∀ w, Calls Tryz.prog 63 #[.agg #[.int .i64 0, .bool false, .int .i64 n, .int .i64 ls, .int .i64 va, .int .i64 vo, .bool true, .bool gd]] w fun e w' => e = .returned (.bool true) ∧ Below w.heap.size w w') (h1 : decide (v < ls) = false) (h2 : decide (1073741824 < v) = true) (w : World) : Calls Tryz.prog 36 #[.agg #[.int .i64 0, .bool false, .int .i64 n, .int .i64 ls, .int .i64 va, .int .i64 vo, .bool true, .bool gd], .int .i64 0, .int .i64 v] w fun e w' => e = .returned (.tuple #[.agg #[.int .i64 0, .bool false, .int .i64 0, .int .i64 0, .int .i64 0, .int .i64 0, .bool false, .bool false], .int .i64 1]) ∧ Below w.heap.size w w' := by
  have hb0 := bits01
  have hb1 := bits11
  go_enter Tryz.func36, Tryz.ntmps36
  go_wp2_with fail
  refine (hc _).mono ?_
  rintro e w1 ⟨rfl, hB⟩
  obtain ⟨k1, k2, hB⟩ := two8 hB
  have K1 := Lib.hid k1
  have K2 := Lib.hid k2
  have HB := Lib.hid hB
  clear hB k1 k2
  obtain ⟨a0, a1, a2, a3, a4, a5, a6, a7⟩ := cells8 K1.out
  obtain ⟨b0, b1, b2, b3, b4, b5, b6, b7⟩ := cells8 K2.out
  have fa := fun i => Blk.free K1.out i
  have fb := fun i => Blk.free K2.out i
  go_wp2_with fail
  refine bodyPost_ret (results_ct (p := 6) (u := 7) (ty := 32) (by kernel_rfl) _ _ (w.heap.size + 1) 32 #[.int .i64 0, .bool false, .int .i64 0, .int .i64 0, .int .i64 0, .int .i64 0, .bool false, .bool false] _ rfl (blk_put8 K2.out (.int .i64 0) (.bool false) (.int .i64 0) (.int .i64 0) (.int .i64 0) (.int .i64 0) (.bool false) (.bool false)) Tryz.underlying32 rfl (by kernel_rfl)) rfl ?_
  exact ⟨rfl, below_put8 HB.out (by omega) _ _ _ _ _ _ _ _⟩
theorem ract0_f_ok (gd : Bool) (n ls va vo v : Int) (hc : ∀ w, Calls Tryz.prog 63 #[.agg #[.int .i64 0, .bool false, .int .i64 n, .int .i64 ls, .int .i64 va, .int .i64 vo, .bool true, .bool gd]] w fun e w' => e = .returned (.bool true) ∧ Below w.heap.size w w') (h1 : decide (v < ls) = false) (h2 : decide (1073741824 < v) = false) (w : World) : Calls Tryz.prog 36 #[.agg #[.int .i64 0, .bool false, .int .i64 n, .int .i64 ls, .int .i64 va, .int .i64 vo, .bool true, .bool gd], .int .i64 0, .int .i64 v] w fun e w' => e = .returned (.tuple #[.agg #[.int .i64 0, .bool false, .int .i64 n, .int .i64 ls, .int .i64 va, .int .i64 v, .bool true, .bool false], .int .i64 0]) ∧ Below w.heap.size w w' := by
  have hb0 := bits01
  have hb1 := bits11
  go_enter Tryz.func36, Tryz.ntmps36
  go_wp2_with fail
  refine (hc _).mono ?_
  rintro e w1 ⟨rfl, hB⟩
  obtain ⟨k1, k2, hB⟩ := two8 hB
  have K1 := Lib.hid k1
  have K2 := Lib.hid k2
  have HB := Lib.hid hB
  clear hB k1 k2
  obtain ⟨a0, a1, a2, a3, a4, a5, a6, a7⟩ := cells8 K1.out
  obtain ⟨b0, b1, b2, b3, b4, b5, b6, b7⟩ := cells8 K2.out
  have fa := fun i => Blk.free K1.out i
  have fb := fun i => Blk.free K2.out i
  go_wp2_with fail
  refine bodyPost_ret (results_ct (p := 6) (u := 7) (ty := 32) (by kernel_rfl) _ _ (w.heap.size + 1) 32 #[.int .i64 0, .bool false, .int .i64 n, .int .i64 ls, .int .i64 va, .int .i64 v, .bool true, .bool false] _ rfl (blk_put8 (Blk.far (Blk.far K2.out (p := ⟨w.heap.size, 7, none⟩) (by simp) (.bool false)) (p := ⟨w.heap.size, 5, none⟩) (by simp) (.int .i64 v)) (.int .i64 0) (.bool false) (.int .i64 n) (.int .i64 ls) (.int .i64 va) (.int .i64 v) (.bool true) (.bool false)) Tryz.underlying32 rfl (by kernel_rfl)) rfl ?_
  exact ⟨rfl, below_put8 (Below.setCell (Below.setCell HB.out (p := ⟨w.heap.size, 7, none⟩) (by simp) (.bool false)) (p := ⟨w.heap.size, 5, none⟩) (by simp) (.int .i64 v)) (by omega) _ _ _ _ _ _ _ _⟩
theorem ract1_f_tr (gd : Bool) (n ls va vo v : Int) (hc : ∀ w, Calls Tryz.prog 63 #[.agg #[.int .i64 0, .bool true, .int .i64 n, .int .i64 ls, .int .i64 va, .int .i64 vo, .bool true, .bool gd]] w fun e w' => e = .returned (.bool true) ∧ Below w.heap.size w w') (w : World) : Calls Tryz.prog 36 #[.agg #[.int .i64 0, .bool true, .int .i64 n, .int .i64 ls, .int .i64 va, .int .i64 vo, .bool true, .bool gd], .int .i64 1, .int .i64 v] w fun e w' => e = .returned (.tuple #[.agg #[.int .i64 0, .bool false, .int .i64 0, .int .i64 0, .int .i64 0, .int .i64 0, .bool false, .bool false], .int .i64 211]) ∧ Below w.heap.size w w' := by
  have hb0 := bits01
  have hb1 := bits11
  go_enter Tryz.func36, Tryz.ntmps36
  go_wp2_with fail
  refine (hc _).mono ?_
  rintro e w1 ⟨rfl, hB⟩
  obtain ⟨k1, k2, hB⟩ := two8 hB
  have K1 := Lib.hid k1
  have K2 := Lib.hid k2
  have HB := Lib.hid hB
  clear hB k1 k2
  obtain ⟨a0, a1, a2, a3, a4, a5, a6, a7⟩ := cells8 K1.out
  obtain ⟨b0, b1, b2, b3, b4, b5, b6, b7⟩ := cells8 K2.out
  have fa := fun i => Blk.free K1.out i
  have fb := fun i => Blk.free K2.out i
  go_wp2_with fail
  refine bodyPost_ret (results_ct (p := 6) (u := 7) (ty := 32) (by kernel_rfl) _ _ (w.heap.size + 1) 32 #[.int .i64 0, .bool false, .int .i64 0, .int .i64 0, .int .i64 0, .int .i64 0, .bool false, .bool false] _ rfl (blk_put8 K2.out (.int .i64 0) (.bool false) (.int .i64 0) (.int .i64 0) (.int .i64 0) (.int .i64 0) (.bool false) (.bool false)) Tryz.underlying32 rfl (by kernel_rfl)) rfl ?_
  exact ⟨rfl, below_put8 HB.out (by omega) _ _ _ _ _ _ _ _⟩
theorem ract1_f_old (gd : Bool) (n ls va vo v : Int) (hc : ∀ w, Calls Tryz.prog 63 #[.agg #[.int .i64 0, .bool false, .int .i64 n, .int .i64 ls, .int .i64 va, .int .i64 vo, .bool true, .bool gd]] w fun e w' => e = .returned (.bool true) ∧ Below w.heap.size w w') (h1 : decide (vo < ls) = true) (w : World) : Calls Tryz.prog 36 #[.agg #[.int .i64 0, .bool false, .int .i64 n, .int .i64 ls, .int .i64 va, .int .i64 vo, .bool true, .bool gd], .int .i64 1, .int .i64 v] w fun e w' => e = .returned (.tuple #[.agg #[.int .i64 0, .bool false, .int .i64 0, .int .i64 0, .int .i64 0, .int .i64 0, .bool false, .bool false], .int .i64 210]) ∧ Below w.heap.size w w' := by
  have hb0 := bits01
  have hb1 := bits11
  go_enter Tryz.func36, Tryz.ntmps36
  go_wp2_with fail
  refine (hc _).mono ?_
  rintro e w1 ⟨rfl, hB⟩
  obtain ⟨k1, k2, hB⟩ := two8 hB
  have K1 := Lib.hid k1
  have K2 := Lib.hid k2
  have HB := Lib.hid hB
  clear hB k1 k2
  obtain ⟨a0, a1, a2, a3, a4, a5, a6, a7⟩ := cells8 K1.out
  obtain ⟨b0, b1, b2, b3, b4, b5, b6, b7⟩ := cells8 K2.out
  have fa := fun i => Blk.free K1.out i
  have fb := fun i => Blk.free K2.out i
  go_wp2_with fail
  go_quiet (fail)
  have hb : Below w.heap.size w (World.drewN w1 nq) := below_drewN HB.out nq
  have q1 : Blk _ w.heap.size #[.int .i64 0, .bool false, .int .i64 n, .int .i64 ls, .int .i64 va, .int .i64 vo, .bool true, .bool gd] 32 := blk_eq K1.out (by simp)
  have q2 : Blk _ (w.heap.size + 1) #[.int .i64 0, .bool false, .int .i64 0, .int .i64 0, .int .i64 0, .int .i64 0, .bool false, .bool false] 32 := blk_eq K2.out (by simp)
  have k1 : Blk (World.drewN w1 nq) w.heap.size #[.int .i64 0, .bool false, .int .i64 n, .int .i64 ls, .int .i64 va, .int .i64 vo, .bool true, .bool gd] 32 := q1
  have k2 : Blk (World.drewN w1 nq) (w.heap.size + 1) #[.int .i64 0, .bool false, .int .i64 0, .int .i64 0, .int .i64 0, .int .i64 0, .bool false, .bool false] 32 := q2
  clear q1 q2
  revert hb k1 k2
  generalize hw2 : World.drewN w1 nq = w2
  intro hb k1 k2
  clear hw2
  clear a0 a1 a2 a3 a4 a5 a6 a7 b0 b1 b2 b3 b4 b5 b6 b7 fa fb
  have K1 := Lib.hid k1
  have K2 := Lib.hid k2
  have HB := Lib.hid hb
  clear hb k1 k2
  obtain ⟨a0, a1, a2, a3, a4, a5, a6, a7⟩ := cells8 K1.out
  obtain ⟨b0, b1, b2, b3, b4, b5, b6, b7⟩ := cells8 K2.out
  have fa := fun i => Blk.free K1.out i
  have fb := fun i => Blk.free K2.out i
  go_wp2_with fail
  refine bodyPost_ret (results_ct (p := 6) (u := 7) (ty := 32) (by kernel_rfl) _ _ (w.heap.size + 1) 32 #[.int .i64 0, .bool false, .int .i64 0, .int .i64 0, .int .i64 0, .int .i64 0, .bool false, .bool false] _ rfl (blk_put8 K2.out (.int .i64 0) (.bool false) (.int .i64 0) (.int .i64 0) (.int .i64 0) (.int .i64 0) (.bool false) (.bool false)) Tryz.underlying32 rfl (by kernel_rfl)) rfl ?_
  exact ⟨rfl, below_put8 HB.out (by omega) _ _ _ _ _ _ _ _⟩
theorem ract1_f_ok (gd : Bool) (n ls va vo v : Int) (hc : ∀ w, Calls Tryz.prog 63 #[.agg #[.int .i64 0, .bool false, .int .i64 n, .int .i64 ls, .int .i64 va, .int .i64 vo, .bool true, .bool gd]] w fun e w' => e = .returned (.bool true) ∧ Below w.heap.size w w') (h1 : decide (vo < ls) = false) (w : World) : Calls Tryz.prog 36 #[.agg #[.int .i64 0, .bool false, .int .i64 n, .int .i64 ls, .int .i64 va, .int .i64 vo, .bool true, .bool gd], .int .i64 1, .int .i64 v] w fun e w' => e = .returned (.tuple #[.agg #[.int .i64 0, .bool false, .int .i64 n, .int .i64 ls, .int .i64 va, .int .i64 vo, .bool true, .bool true], .int .i64 0]) ∧ Below w.heap.size w w' := by
  have hb0 := bits01
  have hb1 := bits11
  go_enter Tryz.func36, Tryz.ntmps36
  go_wp2_with fail
  refine (hc _).mono ?_
  rintro e w1 ⟨rfl, hB⟩
  obtain ⟨k1, k2, hB⟩ := two8 hB
  have K1 := Lib.hid k1
  have K2 := Lib.hid k2
  have HB := Lib.hid hB
  clear hB k1 k2
  obtain ⟨a0, a1, a2, a3, a4, a5, a6, a7⟩ := cells8 K1.out
  obtain ⟨b0, b1, b2, b3, b4, b5, b6, b7⟩ := cells8 K2.out
  have fa := fun i => Blk.free K1.out i
  have fb := fun i => Blk.free K2.out i
  go_wp2_with fail
  go_quiet (fail)
  have hb : Below w.heap.size w (World.drewN w1 nq) := below_drewN HB.out nq
  have q1 : Blk _ w.heap.size #[.int .i64 0, .bool false, .int .i64 n, .int .i64 ls, .int .i64 va, .int .i64 vo, .bool true, .bool gd] 32 := blk_eq K1.out (by simp)
  have q2 : Blk _ (w.heap.size + 1) #[.int .i64 0, .bool false, .int .i64 0, .int .i64 0, .int .i64 0, .int .i64 0, .bool false, .bool false] 32 := blk_eq K2.out (by simp)
  have k1 : Blk (World.drewN w1 nq) w.heap.size #[.int .i64 0, .bool false, .int .i64 n, .int .i64 ls, .int .i64 va, .int .i64 vo, .bool true, .bool gd] 32 := q1
  have k2 : Blk (World.drewN w1 nq) (w.heap.size + 1) #[.int .i64 0, .bool false, .int .i64 0, .int .i64 0, .int .i64 0, .int .i64 0, .bool false, .bool false] 32 := q2
  clear q1 q2
  revert hb k1 k2
  generalize hw2 : World.drewN w1 nq = w2
  intro hb k1 k2
  clear hw2
  clear a0 a1 a2 a3 a4 a5 a6 a7 b0 b1 b2 b3 b4 b5 b6 b7 fa fb
  have K1 := Lib.hid k1
  have K2 := Lib.hid k2
  have HB := Lib.hid hb
  clear hb k1 k2
  obtain ⟨a0, a1, a2, a3, a4, a5, a6, a7⟩ := cells8 K1.out
  obtain ⟨b0, b1, b2, b3, b4, b5, b6, b7⟩ := cells8 K2.out
  have fa := fun i => Blk.free K1.out i
  have fb := fun i => Blk.free K2.out i
  go_wp2_with fail
  refine bodyPost_ret (results_ct (p := 6) (u := 7) (ty := 32) (by kernel_rfl) _ _ (w.heap.size + 1) 32 #[.int .i64 0, .bool false, .int .i64 n, .int .i64 ls, .int .i64 va, .int .i64 vo, .bool true, .bool true] _ rfl (blk_put8 (Blk.far K2.out (p := ⟨w.heap.size, 7, none⟩) (by simp) (.bool true)) (.int .i64 0) (.bool false) (.int .i64 n) (.int .i64 ls) (.int .i64 va) (.int .i64 vo) (.bool true) (.bool true)) Tryz.underlying32 rfl (by kernel_rfl)) rfl ?_
  exact ⟨rfl, below_put8 (Below.setCell HB.out (p := ⟨w.heap.size, 7, none⟩) (by simp) (.bool true)) (by omega) _ _ _ _ _ _ _ _⟩
theorem ract2_f_lo (tr gd : Bool) (n ls va vo t : Int) (hc : ∀ w, Calls Tryz.prog 63 #[.agg #[.int .i64 0, .bool tr, .int .i64 n, .int .i64 ls, .int .i64 va, .int .i64 vo, .bool true, .bool gd]] w fun e w' => e = .returned (.bool true) ∧ Below w.heap.size w w') (h1 : decide (t < 1) = true) (w : World) : Calls Tryz.prog 36 #[.agg #[.int .i64 0, .bool tr, .int .i64 n, .int .i64 ls, .int .i64 va, .int .i64 vo, .bool true, .bool gd], .int .i64 2, .int .i64 t] w fun e w' => e = .returned (.tuple #[.agg #[.int .i64 0, .bool false, .int .i64 0, .int .i64 0, .int .i64 0, .int .i64 0, .bool false, .bool false], .int .i64 1]) ∧ Below w.heap.size w w' := by
  have hb0 := bits01
  have hb1 := bits11
  go_enter Tryz.func36, Tryz.ntmps36
  go_wp2_with fail
  refine (hc _).mono ?_
  rintro e w1 ⟨rfl, hB⟩
  obtain ⟨k1, k2, hB⟩ := two8 hB
  have K1 := Lib.hid k1
  have K2 := Lib.hid k2
  have HB := Lib.hid hB
  clear hB k1 k2
  obtain ⟨a0, a1, a2, a3, a4, a5, a6, a7⟩ := cells8 K1.out
  obtain ⟨b0, b1, b2, b3, b4, b5, b6, b7⟩ := cells8 K2.out
  have fa := fun i => Blk.free K1.out i
  have fb := fun i => Blk.free K2.out i
  go_wp2_with fail
  refine bodyPost_ret (results_ct (p := 6) (u := 7) (ty := 32) (by kernel_rfl) _ _ (w.heap.size + 1) 32 #[.int .i64 0, .bool false, .int .i64 0, .int .i64 0, .int .i64 0, .int .i64 0, .bool false, .bool false] _ rfl (blk_put8 K2.out (.int .i64 0) (.bool false) (.int .i64 0) (.int .i64 0) (.int .i64 0) (.int .i64 0) (.bool false) (.bool false)) Tryz.underlying32 rfl (by kernel_rfl)) rfl ?_
  exact ⟨rfl, below_put8 HB.out (by omega) _ _ _ _ _ _ _ _⟩
theorem ract2_f_hi (tr gd : Bool) (n ls va vo t : Int) (hc : ∀ w, Calls Tryz.prog 63 #[.agg #[.int .i64 0, .bool tr, .int .i64 n, .int .i64 ls, .int .i64 va, .int .i64 vo, .bool true, .bool gd]] w fun e w' => e = .returned (.bool true) ∧ Below w.heap.size w w') (h1 : decide (t < 1) = false) (h2 : decide (7 < t) = true) (w : World) : Calls Tryz.prog 36 #[.agg #[.int .i64 0, .bool tr, .int .i64 n, .int .i64 ls, .int .i64 va, .int .i64 vo, .bool true, .bool gd], .int .i64 2, .int .i64 t] w fun e w' => e = .returned (.tuple #[.agg #[.int .i64 0, .bool false, .int .i64 0, .int .i64 0, .int .i64 0, .int .i64 0, .bool false, .bool false], .int .i64 1]) ∧ Below w.heap.size w w' := by
  have hb0 := bits01
  have hb1 := bits11
  go_enter Tryz.func36, Tryz.ntmps36
  go_wp2_with fail
  refine (hc _).mono ?_
  rintro e w1 ⟨rfl, hB⟩
  obtain ⟨k1, k2, hB⟩ := two8 hB
  have K1 := Lib.hid k1
  have K2 := Lib.hid k2
  have HB := Lib.hid hB
  clear hB k1 k2
  obtain ⟨a0, a1, a2, a3, a4, a5, a6, a7⟩ := cells8 K1.out
  obtain ⟨b0, b1, b2, b3, b4, b5, b6, b7⟩ := cells8 K2.out
  have fa := fun i => Blk.free K1.out i
  have fb := fun i => Blk.free K2.out i
  go_wp2_with fail
  refine bodyPost_ret (results_ct (p := 6) (u := 7) (ty := 32) (by kernel_rfl) _ _ (w.heap.size + 1) 32 #[.int .i64 0, .bool false, .int .i64 0, .int .i64 0, .int .i64 0, .int .i64 0, .bool false, .bool false] _ rfl (blk_put8 K2.out (.int .i64 0) (.bool false) (.int .i64 0) (.int .i64 0) (.int .i64 0) (.int .i64 0) (.bool false) (.bool false)) Tryz.underlying32 rfl (by kernel_rfl)) rfl ?_
  exact ⟨rfl, below_put8 HB.out (by omega) _ _ _ _ _ _ _ _⟩
theorem ract2_f_tr (gd : Bool) (n ls va vo t : Int) (hc : ∀ w, Calls Tryz.prog 63 #[.agg #[.int .i64 0, .bool true, .int .i64 n, .int .i64 ls, .int .i64 va, .int .i64 vo, .bool true, .bool gd]] w fun e w' => e = .returned (.bool true) ∧ Below w.heap.size w w') (h1 : decide (t < 1) = false) (h2 : decide (7 < t) = false) (w : World) : Calls Tryz.prog 36 #[.agg #[.int .i64 0, .bool true, .int .i64 n, .int .i64 ls, .int .i64 va, .int .i64 vo, .bool true, .bool gd], .int .i64 2, .int .i64 t] w fun e w' => e = .returned (.tuple #[.agg #[.int .i64 0, .bool false, .int .i64 0, .int .i64 0, .int .i64 0, .int .i64 0, .bool false, .bool false], .int .i64 211]) ∧ Below w.heap.size w w' := by
  have hb0 := bits01
  have hb1 := bits11
  go_enter Tryz.func36, Tryz.ntmps36
  go_wp2_with fail
  refine (hc _).mono ?_
  rintro e w1 ⟨rfl, hB⟩
  obtain ⟨k1, k2, hB⟩ := two8 hB
  have K1 := Lib.hid k1
  have K2 := Lib.hid k2
  have HB := Lib.hid hB
  clear hB k1 k2
  obtain ⟨a0, a1, a2, a3, a4, a5, a6, a7⟩ := cells8 K1.out
  obtain ⟨b0, b1, b2, b3, b4, b5, b6, b7⟩ := cells8 K2.out
  have fa := fun i => Blk.free K1.out i
  have fb := fun i => Blk.free K2.out i
  go_wp2_with fail
  refine bodyPost_ret (results_ct (p := 6) (u := 7) (ty := 32) (by kernel_rfl) _ _ (w.heap.size + 1) 32 #[.int .i64 0, .bool false, .int .i64 0, .int .i64 0, .int .i64 0, .int .i64 0, .bool false, .bool false] _ rfl (blk_put8 K2.out (.int .i64 0) (.bool false) (.int .i64 0) (.int .i64 0) (.int .i64 0) (.int .i64 0) (.bool false) (.bool false)) Tryz.underlying32 rfl (by kernel_rfl)) rfl ?_
  exact ⟨rfl, below_put8 HB.out (by omega) _ _ _ _ _ _ _ _⟩
theorem ract2_f_no (n ls va vo t : Int) (hc : ∀ w, Calls Tryz.prog 63 #[.agg #[.int .i64 0, .bool false, .int .i64 n, .int .i64 ls, .int .i64 va, .int .i64 vo, .bool true, .bool false]] w fun e w' => e = .returned (.bool true) ∧ Below w.heap.size w w') (h1 : decide (t < 1) = false) (h2 : decide (7 < t) = false) (w : World) : Calls Tryz.prog 36 #[.agg #[.int .i64 0, .bool false, .int .i64 n, .int .i64 ls, .int .i64 va, .int .i64 vo, .bool true, .bool false], .int .i64 2, .int .i64 t] w fun e w' => e = .returned (.tuple #[.agg #[.int .i64 0, .bool false, .int .i64 0, .int .i64 0, .int .i64 0, .int .i64 0, .bool false, .bool false], .int .i64 212]) ∧ Below w.heap.size w w' := by
  have hb0 := bits01
  have hb1 := bits11
  go_enter Tryz.func36, Tryz.ntmps36
  go_wp2_with fail
  refine (hc _).mono ?_
  rintro e w1 ⟨rfl, hB⟩
  obtain ⟨k1, k2, hB⟩ := two8 hB
  have K1 := Lib.hid k1
  have K2 := Lib.hid k2
  have HB := Lib.hid hB
  clear hB k1 k2
  obtain ⟨a0, a1, a2, a3, a4, a5, a6, a7⟩ := cells8 K1.out
  obtain ⟨b0, b1, b2, b3, b4, b5, b6, b7⟩ := cells8 K2.out
  have fa := fun i => Blk.free K1.out i
  have fb := fun i => Blk.free K2.out i
  go_wp2_with fail
  refine bodyPost_ret (results_ct (p := 6) (u := 7) (ty := 32) (by kernel_rfl) _ _ (w.heap.size + 1) 32 #[.int .i64 0, .bool false, .int .i64 0, .int .i64 0, .int .i64 0, .int .i64 0, .bool false, .bool false] _ rfl (blk_put8 K2.out (.int .i64 0) (.bool false) (.int .i64 0) (.int .i64 0) (.int .i64 0) (.int .i64 0) (.bool false) (.bool false)) Tryz.underlying32 rfl (by kernel_rfl)) rfl ?_
  exact ⟨rfl, below_put8 HB.out (by omega) _ _ _ _ _ _ _ _⟩
theorem ract2_f_old (n ls va vo t : Int) (hc : ∀ w, Calls Tryz.prog 63 #[.agg #[.int .i64 0, .bool false, .int .i64 n, .int .i64 ls, .int .i64 va, .int .i64 vo, .bool true, .bool true]] w fun e w' => e = .returned (.bool true) ∧ Below w.heap.size w w') (h1 : decide (t < 1) = false) (h2 : decide (7 < t) = false) (h3 : decide (vo < ls) = true) (w : World) : Calls Tryz.prog 36 #[.agg #[.int .i64 0, .bool false, .int .i64 n, .int .i64 ls, .int .i64 va, .int .i64 vo, .bool true, .bool true], .int .i64 2, .int .i64 t] w fun e w' => e = .returned (.tuple #[.agg #[.int .i64 0, .bool false, .int .i64 0, .int .i64 0, .int .i64 0, .int .i64 0, .bool false, .bool false], .int .i64 210]) ∧ Below w.heap.size w w' := by
  have hb0 := bits01
  have hb1 := bits11
  go_enter Tryz.func36, Tryz.ntmps36
  go_wp2_with fail
  refine (hc _).mono ?_
  rintro e w1 ⟨rfl, hB⟩
  obtain ⟨k1, k2, hB⟩ := two8 hB
  have K1 := Lib.hid k1
  have K2 := Lib.hid k2
  have HB := Lib.hid hB
  clear hB k1 k2
  obtain ⟨a0, a1, a2, a3, a4, a5, a6, a7⟩ := cells8 K1.out
  obtain ⟨b0, b1, b2, b3, b4, b5, b6, b7⟩ := cells8 K2.out
  have fa := fun i => Blk.free K1.out i
  have fb := fun i => Blk.free K2.out i
  go_wp2_with fail
  go_quiet (fail)
  have hb : Below w.heap.size w (World.drewN w1 nq) := below_drewN HB.out nq
  have q1 : Blk _ w.heap.size #[.int .i64 0, .bool false, .int .i64 n, .int .i64 ls, .int .i64 va, .int .i64 vo, .bool true, .bool true] 32 := blk_eq K1.out (by simp)
  have q2 : Blk _ (w.heap.size + 1) #[.int .i64 0, .bool false, .int .i64 0, .int .i64 0, .int .i64 0, .int .i64 0, .bool false, .bool false] 32 := blk_eq K2.out (by simp)
  have k1 : Blk (World.drewN w1 nq) w.heap.size #[.int .i64 0, .bool false, .int .i64 n, .int .i64 ls, .int .i64 va, .int .i64 vo, .bool true, .bool true] 32 := q1
  have k2 : Blk (World.drewN w1 nq) (w.heap.size + 1) #[.int .i64 0, .bool false, .int .i64 0, .int .i64 0, .int .i64 0, .int .i64 0, .bool false, .bool false] 32 := q2
  clear q1 q2
  revert hb k1 k2
  generalize hw2 : World.drewN w1 nq = w2
  intro hb k1 k2
  clear hw2
  clear a0 a1 a2 a3 a4 a5 a6 a7 b0 b1 b2 b3 b4 b5 b6 b7 fa fb
  have K1 := Lib.hid k1
  have K2 := Lib.hid k2
  have HB := Lib.hid hb
  clear hb k1 k2
  obtain ⟨a0, a1, a2, a3, a4, a5, a6, a7⟩ := cells8 K1.out
  obtain ⟨b0, b1, b2, b3, b4, b5, b6, b7⟩ := cells8 K2.out
  have fa := fun i => Blk.free K1.out i
  have fb := fun i => Blk.free K2.out i
  go_wp2_with fail
  refine bodyPost_ret (results_ct (p := 6) (u := 7) (ty := 32) (by kernel_rfl) _ _ (w.heap.size + 1) 32 #[.int .i64 0, .bool false, .int .i64 0, .int .i64 0, .int .i64 0, .int .i64 0, .bool false, .bool false] _ rfl (blk_put8 K2.out (.int .i64 0) (.bool false) (.int .i64 0) (.int .i64 0) (.int .i64 0) (.int .i64 0) (.bool false) (.bool false)) Tryz.underlying32 rfl (by kernel_rfl)) rfl ?_
  exact ⟨rfl, below_put8 HB.out (by omega) _ _ _ _ _ _ _ _⟩
theorem ract2_f_ok (n ls va vo t : Int) (hc : ∀ w, Calls Tryz.prog 63 #[.agg #[.int .i64 0, .bool false, .int .i64 n, .int .i64 ls, .int .i64 va, .int .i64 vo, .bool true, .bool true]] w fun e w' => e = .returned (.bool true) ∧ Below w.heap.size w w') (h1 : decide (t < 1) = false) (h2 : decide (7 < t) = false) (h3 : decide (vo < ls) = false) (w : World) : Calls Tryz.prog 36 #[.agg #[.int .i64 0, .bool false, .int .i64 n, .int .i64 ls, .int .i64 va, .int .i64 vo, .bool true, .bool true], .int .i64 2, .int .i64 t] w fun e w' => e = .returned (.tuple #[.agg #[.int .i64 1, .bool true, .int .i64 t, .int .i64 ls, .int .i64 va, .int .i64 vo, .bool true, .bool true], .int .i64 0]) ∧ Below w.heap.size w w' := by
  have hb0 := bits01
  have hb1 := bits11
  go_enter Tryz.func36, Tryz.ntmps36
  go_wp2_with fail
  refine (hc _).mono ?_
  rintro e w1 ⟨rfl, hB⟩
  obtain ⟨k1, k2, hB⟩ := two8 hB
  have K1 := Lib.hid k1
  have K2 := Lib.hid k2
  have HB := Lib.hid hB
  clear hB k1 k2
  obtain ⟨a0, a1, a2, a3, a4, a5, a6, a7⟩ := cells8 K1.out
  obtain ⟨b0, b1, b2, b3, b4, b5, b6, b7⟩ := cells8 K2.out
  have fa := fun i => Blk.free K1.out i
  have fb := fun i => Blk.free K2.out i
  go_wp2_with fail
  go_quiet (fail)
  have hb : Below w.heap.size w (World.drewN w1 nq) := below_drewN HB.out nq
  have q1 : Blk _ w.heap.size #[.int .i64 0, .bool false, .int .i64 n, .int .i64 ls, .int .i64 va, .int .i64 vo, .bool true, .bool true] 32 := blk_eq K1.out (by simp)
  have q2 : Blk _ (w.heap.size + 1) #[.int .i64 0, .bool false, .int .i64 0, .int .i64 0, .int .i64 0, .int .i64 0, .bool false, .bool false] 32 := blk_eq K2.out (by simp)
  have k1 : Blk (World.drewN w1 nq) w.heap.size #[.int .i64 0, .bool false, .int .i64 n, .int .i64 ls, .int .i64 va, .int .i64 vo, .bool true, .bool true] 32 := q1
  have k2 : Blk (World.drewN w1 nq) (w.heap.size + 1) #[.int .i64 0, .bool false, .int .i64 0, .int .i64 0, .int .i64 0, .int .i64 0, .bool false, .bool false] 32 := q2
  clear q1 q2
  revert hb k1 k2
  generalize hw2 : World.drewN w1 nq = w2
  intro hb k1 k2
  clear hw2
  clear a0 a1 a2 a3 a4 a5 a6 a7 b0 b1 b2 b3 b4 b5 b6 b7 fa fb
  have K1 := Lib.hid k1
  have K2 := Lib.hid k2
  have HB := Lib.hid hb
  clear hb k1 k2
  obtain ⟨a0, a1, a2, a3, a4, a5, a6, a7⟩ := cells8 K1.out
  obtain ⟨b0, b1, b2, b3, b4, b5, b6, b7⟩ := cells8 K2.out
  have fa := fun i => Blk.free K1.out i
  have fb := fun i => Blk.free K2.out i
  go_wp2_with fail
  refine bodyPost_ret (results_ct (p := 6) (u := 7) (ty := 32) (by kernel_rfl) _ _ (w.heap.size + 1) 32 #[.int .i64 1, .bool true, .int .i64 t, .int .i64 ls, .int .i64 va, .int .i64 vo, .bool true, .bool true] _ rfl (blk_put8 (Blk.far (Blk.far (Blk.far K2.out (p := ⟨w.heap.size, 0, none⟩) (by simp) (.int .i64 1)) (p := ⟨w.heap.size, 1, none⟩) (by simp) (.bool true)) (p := ⟨w.heap.size, 2, none⟩) (by simp) (.int .i64 t)) (.int .i64 1) (.bool true) (.int .i64 t) (.int .i64 ls) (.int .i64 va) (.int .i64 vo) (.bool true) (.bool true)) Tryz.underlying32 rfl (by kernel_rfl)) rfl ?_
  exact ⟨rfl, below_put8 (Below.setCell (Below.setCell (Below.setCell HB.out (p := ⟨w.heap.size, 0, none⟩) (by simp) (.int .i64 1)) (p := ⟨w.heap.size, 1, none⟩) (by simp) (.bool true)) (p := ⟨w.heap.size, 2, none⟩) (by simp) (.int .i64 t)) (by omega) _ _ _ _ _ _ _ _⟩
theorem ract3_f_trial (ls va vo v : Int) (n : Int) (gd : Bool) (hc : ∀ w, Calls Tryz.prog 63 #[.agg #[.int .i64 0, .bool true, .int .i64 n, .int .i64 ls, .int .i64 va, .int .i64 vo, .bool true, .bool gd]] w fun e w' => e = .returned (.bool true) ∧ Below w.heap.size w w') (hs : ∀ w, Calls Tryz.prog 64 #[.agg #[.int .i64 0, .bool true, .int .i64 n, .int .i64 ls, .int .i64 va, .int .i64 vo, .bool true, .bool gd]] w fun e w' => e = .returned (.int .i64 2) ∧ Below w.heap.size w w') (h : 1 ≤ n) (h7 : n ≤ 7) (w : World) : Calls Tryz.prog 36 #[.agg #[.int .i64 0, .bool true, .int .i64 n, .int .i64 ls, .int .i64 va, .int .i64 vo, .bool true, .bool gd], .int .i64 3, .int .i64 v] w fun e w' => e = .returned (.tuple #[.agg #[.int .i64 0, .bool true, .int .i64 (n - 1), .int .i64 ls, .int .i64 va, .int .i64 vo, .bool true, .bool gd], .int .i64 0]) ∧ Below w.heap.size w w' := by
  have hb0 := bits01
  have hb1 := bits11
  go_enter Tryz.func36, Tryz.ntmps36
  go_wp2_with fail
  refine (hc _).mono ?_
  rintro e w1 ⟨rfl, hB⟩
  obtain ⟨k1, k2, hB⟩ := two8 hB
  have K1 := Lib.hid k1
  have K2 := Lib.hid k2
  have HB := Lib.hid hB
  clear hB k1 k2
  obtain ⟨a0, a1, a2, a3, a4, a5, a6, a7⟩ := cells8 K1.out
  obtain ⟨b0, b1, b2, b3, b4, b5, b6, b7⟩ := cells8 K2.out
  have fa := fun i => Blk.free K1.out i
  have fb := fun i => Blk.free K2.out i
  go_wp2_with fail
  refine (hs _).mono ?_
  have k1 := K1.out
  have k2 := K2.out
  have hb := HB.out
  rintro e w2 ⟨rfl, hB⟩
  clear a0 a1 a2 a3 a4 a5 a6 a7 b0 b1 b2 b3 b4 b5 b6 b7 fa fb
  have K1 := Lib.hid (k1.below hB)
  have K2 := Lib.hid (k2.below hB)
  have HB := Lib.hid (hb.trans (hB.mono hb.size))
  clear hB k1 k2 hb
  obtain ⟨a0, a1, a2, a3, a4, a5, a6, a7⟩ := cells8 K1.out
  obtain ⟨b0, b1, b2, b3, b4, b5, b6, b7⟩ := cells8 K2.out
  have fa := fun i => Blk.free K1.out i
  have fb := fun i => Blk.free K2.out i
  go_wp2_with fail
  refine bodyPost_ret (results_ct (p := 6) (u := 7) (ty := 32) (by kernel_rfl) _ _ (w.heap.size + 1) 32 #[.int .i64 0, .bool true, .int .i64 (n - 1), .int .i64 ls, .int .i64 va, .int .i64 vo, .bool true, .bool gd] _ rfl (blk_put8 (Blk.far K2.out (p := ⟨w.heap.size, 2, none⟩) (by simp) (.int .i64 (n - 1))) (.int .i64 0) (.bool true) (.int .i64 (n - 1)) (.int .i64 ls) (.int .i64 va) (.int .i64 vo) (.bool true) (.bool gd)) Tryz.underlying32 rfl (by kernel_rfl)) rfl ?_
  exact ⟨rfl, below_put8 (Below.setCell HB.out (p := ⟨w.heap.size, 2, none⟩) (by simp) (.int .i64 (n - 1))) (by omega) _ _ _ _ _ _ _ _⟩
theorem ract3_f_ready (ls va vo v : Int) (n : Int) (hc : ∀ w, Calls Tryz.prog 63 #[.agg #[.int .i64 0, .bool false, .int .i64 n, .int .i64 ls, .int .i64 va, .int .i64 vo, .bool true, .bool true]] w fun e w' => e = .returned (.bool true) ∧ Below w.heap.size w w') (hs : ∀ w, Calls Tryz.prog 64 #[.agg #[.int .i64 0, .bool false, .int .i64 n, .int .i64 ls, .int .i64 va, .int .i64 vo, .bool true, .bool true]] w fun e w' => e = .returned (.int .i64 1) ∧ Below w.heap.size w w') (w : World) : Calls Tryz.prog 36 #[.agg #[.int .i64 0, .bool false, .int .i64 n, .int .i64 ls, .int .i64 va, .int .i64 vo, .bool true, .bool true], .int .i64 3, .int .i64 v] w fun e w' => e = .returned (.tuple #[.agg #[.int .i64 0, .bool false, .int .i64 n, .int .i64 ls, .int .i64 va, .int .i64 vo, .bool true, .bool true], .int .i64 0]) ∧ Below w.heap.size w w' := by
  have hb0 := bits01
  have hb1 := bits11
  go_enter Tryz.func36, Tryz.ntmps36
  go_wp2_with fail
  refine (hc _).mono ?_
  rintro e w1 ⟨rfl, hB⟩
  obtain ⟨k1, k2, hB⟩ := two8 hB
  have K1 := Lib.hid k1
  have K2 := Lib.hid k2
  have HB := Lib.hid hB
  clear hB k1 k2
  obtain ⟨a0, a1, a2, a3, a4, a5, a6, a7⟩ := cells8 K1.out
  obtain ⟨b0, b1, b2, b3, b4, b5, b6, b7⟩ := cells8 K2.out
  have fa := fun i => Blk.free K1.out i
  have fb := fun i => Blk.free K2.out i
  go_wp2_with fail
  refine (hs _).mono ?_
  have k1 := K1.out
  have k2 := K2.out
  have hb := HB.out
  rintro e w2 ⟨rfl, hB⟩
  clear a0 a1 a2 a3 a4 a5 a6 a7 b0 b1 b2 b3 b4 b5 b6 b7 fa fb
  have K1 := Lib.hid (k1.below hB)
  have K2 := Lib.hid (k2.below hB)
  have HB := Lib.hid (hb.trans (hB.mono hb.size))
  clear hB k1 k2 hb
  obtain ⟨a0, a1, a2, a3, a4, a5, a6, a7⟩ := cells8 K1.out
  obtain ⟨b0, b1, b2, b3, b4, b5, b6, b7⟩ := cells8 K2.out
  have fa := fun i => Blk.free K1.out i
  have fb := fun i => Blk.free K2.out i
  go_wp2_with fail
  refine bodyPost_ret (results_ct (p := 6) (u := 7) (ty := 32) (by kernel_rfl) _ _ (w.heap.size + 1) 32 #[.int .i64 0, .bool false, .int .i64 n, .int .i64 ls, .int .i64 va, .int .i64 vo, .bool true, .bool true] _ rfl (blk_put8 K2.out (.int .i64 0) (.bool false) (.int .i64 n) (.int .i64 ls) (.int .i64 va) (.int .i64 vo) (.bool true) (.bool true)) Tryz.underlying32 rfl (by kernel_rfl)) rfl ?_
  exact ⟨rfl, below_put8 HB.out (by omega) _ _ _ _ _ _ _ _⟩
theorem ract3_f_plain (ls va vo v : Int) (n : Int) (hc : ∀ w, Calls Tryz.prog 63 #[.agg #[.int .i64 0, .bool false, .int .i64 n, .int .i64 ls, .int .i64 va, .int .i64 vo, .bool true, .bool false]] w fun e w' => e = .returned (.bool true) ∧ Below w.heap.size w w') (hs : ∀ w, Calls Tryz.prog 64 #[.agg #[.int .i64 0, .bool false, .int .i64 n, .int .i64 ls, .int .i64 va, .int .i64 vo, .bool true, .bool false]] w fun e w' => e = .returned (.int .i64 0) ∧ Below w.heap.size w w') (w : World) : Calls Tryz.prog 36 #[.agg #[.int .i64 0, .bool false, .int .i64 n, .int .i64 ls, .int .i64 va, .int .i64 vo, .bool true, .bool false], .int .i64 3, .int .i64 v] w fun e w' => e = .returned (.tuple #[.agg #[.int .i64 0, .bool false, .int .i64 n, .int .i64 ls, .int .i64 va, .int .i64 vo, .bool true, .bool false], .int .i64 0]) ∧ Below w.heap.size w w' := by
  have hb0 := bits01
  have hb1 := bits11
  go_enter Tryz.func36, Tryz.ntmps36
  go_wp2_with fail
  refine (hc _).mono ?_
  rintro e w1 ⟨rfl, hB⟩
  obtain ⟨k1, k2, hB⟩ := two8 hB
  have K1 := Lib.hid k1
  have K2 := Lib.hid k2
  have HB := Lib.hid hB
  clear hB k1 k2
  obtain ⟨a0, a1, a2, a3, a4, a5, a6, a7⟩ := cells8 K1.out
  obtain ⟨b0, b1, b2, b3, b4, b5, b6, b7⟩ := cells8 K2.out
  have fa := fun i => Blk.free K1.out i
  have fb := fun i => Blk.free K2.out i
  go_wp2_with fail
  refine (hs _).mono ?_
  have k1 := K1.out
  have k2 := K2.out
  have hb := HB.out
  rintro e w2 ⟨rfl, hB⟩
  clear a0 a1 a2 a3 a4 a5 a6 a7 b0 b1 b2 b3 b4 b5 b6 b7 fa fb
  have K1 := Lib.hid (k1.below hB)
  have K2 := Lib.hid (k2.below hB)
  have HB := Lib.hid (hb.trans (hB.mono hb.size))
  clear hB k1 k2 hb
  obtain ⟨a0, a1, a2, a3, a4, a5, a6, a7⟩ := cells8 K1.out
  obtain ⟨b0, b1, b2, b3, b4, b5, b6, b7⟩ := cells8 K2.out
  have fa := fun i => Blk.free K1.out i
  have fb := fun i => Blk.free K2.out i
  go_wp2_with fail
  refine bodyPost_ret (results_ct (p := 6) (u := 7) (ty := 32) (by kernel_rfl) _ _ (w.heap.size + 1) 32 #[.int .i64 0, .bool false, .int .i64 n, .int .i64 ls, .int .i64 va, .int .i64 vo, .bool true, .bool false] _ rfl (blk_put8 K2.out (.int .i64 0) (.bool false) (.int .i64 n) (.int .i64 ls) (.int .i64 va) (.int .i64 vo) (.bool true) (.bool false)) Tryz.underlying32 rfl (by kernel_rfl)) rfl ?_
  exact ⟨rfl, below_put8 HB.out (by omega) _ _ _ _ _ _ _ _⟩
theorem ract3_f_last (gd : Bool) (ls va vo v : Int) (hc : ∀ w, Calls Tryz.prog 63 #[.agg #[.int .i64 0, .bool true, .int .i64 0, .int .i64 ls, .int .i64 va, .int .i64 vo, .bool true, .bool gd]] w fun e w' => e = .returned (.bool true) ∧ Below w.heap.size w w') (hs : ∀ w, Calls Tryz.prog 64 #[.agg #[.int .i64 0, .bool true, .int .i64 0, .int .i64 ls, .int .i64 va, .int .i64 vo, .bool true, .bool gd]] w fun e w' => e = .returned (.int .i64 3) ∧ Below w.heap.size w w') (ht : ∀ w, Calls Tryz.prog 65 #[.agg #[.int .i64 0, .bool true, .int .i64 0, .int .i64 ls, .int .i64 va, .int .i64 vo, .bool true, .bool gd]] w fun e w' => e = .returned (.tuple #[.agg #[.int .i64 1, .bool false, .int .i64 0, .int .i64 ls, .int .i64 va, .int .i64 vo, .bool false, .bool gd], .int .i64 0]) ∧ Below w.heap.size w w') (w : World) : Calls Tryz.prog 36 #[.agg #[.int .i64 0, .bool true, .int .i64 0, .int .i64 ls, .int .i64 va, .int .i64 vo, .bool true, .bool gd], .int .i64 3, .int .i64 v] w fun e w' => e = .returned (.tuple #[.agg #[.int .i64 1, .bool false, .int .i64 0, .int .i64 ls, .int .i64 va, .int .i64 vo, .bool false, .bool gd], .int .i64 0]) ∧ Below w.heap.size w w' := by
  have hb0 := bits01
  have hb1 := bits11
  go_enter Tryz.func36, Tryz.ntmps36
  go_wp2_with fail
  refine (hc _).mono ?_
  rintro e w1 ⟨rfl, hB⟩
  obtain ⟨k1, k2, hB⟩ := two8 hB
  have K1 := Lib.hid k1
  have K2 := Lib.hid k2
  have HB := Lib.hid hB
  clear hB k1 k2
  obtain ⟨a0, a1, a2, a3, a4, a5, a6, a7⟩ := cells8 K1.out
  obtain ⟨b0, b1, b2, b3, b4, b5, b6, b7⟩ := cells8 K2.out
  have fa := fun i => Blk.free K1.out i
  have fb := fun i => Blk.free K2.out i
  go_wp2_with fail
  refine (hs _).mono ?_
  have k1 := K1.out
  have k2 := K2.out
  have hb := HB.out
  rintro e w2 ⟨rfl, hB⟩
  clear a0 a1 a2 a3 a4 a5 a6 a7 b0 b1 b2 b3 b4 b5 b6 b7 fa fb
  have K1 := Lib.hid (k1.below hB)
  have K2 := Lib.hid (k2.below hB)
  have HB := Lib.hid (hb.trans (hB.mono hb.size))
  clear hB k1 k2 hb
  obtain ⟨a0, a1, a2, a3, a4, a5, a6, a7⟩ := cells8 K1.out
  obtain ⟨b0, b1, b2, b3, b4, b5, b6, b7⟩ := cells8 K2.out
  have fa := fun i => Blk.free K1.out i
  have fb := fun i => Blk.free K2.out i
  go_wp2_with fail
  refine (ht _).mono ?_
  have k1 := K1.out
  have k2 := K2.out
  have hb := HB.out
  rintro e w3 ⟨rfl, hB⟩
  clear a0 a1 a2 a3 a4 a5 a6 a7 b0 b1 b2 b3 b4 b5 b6 b7 fa fb
  have K1 := Lib.hid (k1.below hB)
  have K2 := Lib.hid (k2.below hB)
  have HB := Lib.hid (hb.trans (hB.mono hb.size))
  clear hB k1 k2 hb
  obtain ⟨a0, a1, a2, a3, a4, a5, a6, a7⟩ := cells8 K1.out
  obtain ⟨b0, b1, b2, b3, b4, b5, b6, b7⟩ := cells8 K2.out
  have fa := fun i => Blk.free K1.out i
  have fb := fun i => Blk.free K2.out i
  go_wp2_with fail
  refine bodyPost_ret (results_ct (p := 6) (u := 7) (ty := 32) (by kernel_rfl) _ _ (w.heap.size + 1) 32 #[.int .i64 1, .bool false, .int .i64 0, .int .i64 ls, .int .i64 va, .int .i64 vo, .bool false, .bool gd] _ rfl (blk_put8 K2.out (.int .i64 1) (.bool false) (.int .i64 0) (.int .i64 ls) (.int .i64 va) (.int .i64 vo) (.bool false) (.bool gd)) Tryz.underlying32 rfl (by kernel_rfl)) rfl ?_
  exact ⟨rfl, below_put8 HB.out (by omega) _ _ _ _ _ _ _ _⟩
theorem ract4_f_no (gd : Bool) (n ls va vo v : Int) (hc : ∀ w, Calls Tryz.prog 63 #[.agg #[.int .i64 0, .bool false, .int .i64 n, .int .i64 ls, .int .i64 va, .int .i64 vo, .bool true, .bool gd]] w fun e w' => e = .returned (.bool true) ∧ Below w.heap.size w w') (w : World) : Calls Tryz.prog 36 #[.agg #[.int .i64 0, .bool false, .int .i64 n, .int .i64 ls, .int .i64 va, .int .i64 vo, .bool true, .bool gd], .int .i64 4, .int .i64 v] w fun e w' => e = .returned (.tuple #[.agg #[.int .i64 0, .bool false, .int .i64 0, .int .i64 0, .int .i64 0, .int .i64 0, .bool false, .bool false], .int .i64 211]) ∧ Below w.heap.size w w' := by
  have hb0 := bits01
  have hb1 := bits11
  go_enter Tryz.func36, Tryz.ntmps36
  go_wp2_with fail
  refine (hc _).mono ?_
  rintro e w1 ⟨rfl, hB⟩
  obtain ⟨k1, k2, hB⟩ := two8 hB
  have K1 := Lib.hid k1
  have K2 := Lib.hid k2
  have HB := Lib.hid hB
  clear hB k1 k2
  obtain ⟨a0, a1, a2, a3, a4, a5, a6, a7⟩ := cells8 K1.out
  obtain ⟨b0, b1, b2, b3, b4, b5, b6, b7⟩ := cells8 K2.out
  have fa := fun i => Blk.free K1.out i
  have fb := fun i => Blk.free K2.out i
  go_wp2_with fail
  refine bodyPost_ret (results_ct (p := 6) (u := 7) (ty := 32) (by kernel_rfl) _ _ (w.heap.size + 1) 32 #[.int .i64 0, .bool false, .int .i64 0, .int .i64 0, .int .i64 0, .int .i64 0, .bool false, .bool false] _ rfl (blk_put8 K2.out (.int .i64 0) (.bool false) (.int .i64 0) (.int .i64 0) (.int .i64 0) (.int .i64 0) (.bool false) (.bool false)) Tryz.underlying32 rfl (by kernel_rfl)) rfl ?_
  exact ⟨rfl, below_put8 HB.out (by omega) _ _ _ _ _ _ _ _⟩
theorem ract4_f_up (gd : Bool) (n ls va vo v : Int) (hc : ∀ w, Calls Tryz.prog 63 #[.agg #[.int .i64 0, .bool true, .int .i64 n, .int .i64 ls, .int .i64 va, .int .i64 vo, .bool true, .bool gd]] w fun e w' => e = .returned (.bool true) ∧ Below w.heap.size w w') (h : decide (ls < va) = true) (w : World) : Calls Tryz.prog 36 #[.agg #[.int .i64 0, .bool true, .int .i64 n, .int .i64 ls, .int .i64 va, .int .i64 vo, .bool true, .bool gd], .int .i64 4, .int .i64 v] w fun e w' => e = .returned (.tuple #[.agg #[.int .i64 0, .bool false, .int .i64 0, .int .i64 va, .int .i64 va, .int .i64 vo, .bool true, .bool gd], .int .i64 0]) ∧ Below w.heap.size w w' := by
  have hb0 := bits01
  have hb1 := bits11
  go_enter Tryz.func36, Tryz.ntmps36
  go_wp2_with fail
  refine (hc _).mono ?_
  rintro e w1 ⟨rfl, hB⟩
  obtain ⟨k1, k2, hB⟩ := two8 hB
  have K1 := Lib.hid k1
  have K2 := Lib.hid k2
  have HB := Lib.hid hB
  clear hB k1 k2
  obtain ⟨a0, a1, a2, a3, a4, a5, a6, a7⟩ := cells8 K1.out
  obtain ⟨b0, b1, b2, b3, b4, b5, b6, b7⟩ := cells8 K2.out
  have fa := fun i => Blk.free K1.out i
  have fb := fun i => Blk.free K2.out i
  go_wp2_with fail
  go_quiet (fail)
  have hb : Below w.heap.size w (World.drewN (World.setCell (World.setCell w1 ⟨w.heap.size, 1, none⟩ (.bool false)) ⟨w.heap.size, 2, none⟩ (.int .i64 0)) nq) := below_drewN (Below.setCell (Below.setCell HB.out (p := ⟨w.heap.size, 1, none⟩) (by simp) (.bool false)) (p := ⟨w.heap.size, 2, none⟩) (by simp) (.int .i64 0)) nq
  have q1 : Blk _ w.heap.size #[.int .i64 0, .bool false, .int .i64 0, .int .i64 ls, .int .i64 va, .int .i64 vo, .bool true, .bool gd] 32 := blk_eq (Blk.set (Blk.set K1.out 1 (.bool false)) 2 (.int .i64 0)) (by simp)
  have q2 : Blk _ (w.heap.size + 1) #[.int .i64 0, .bool false, .int .i64 0, .int .i64 0, .int .i64 0, .int .i64 0, .bool false, .bool false] 32 := blk_eq (Blk.far (Blk.far K2.out (p := ⟨w.heap.size, 1, none⟩) (by simp) (.bool false)) (p := ⟨w.heap.size, 2, none⟩) (by simp) (.int .i64 0)) (by simp)
  have k1 : Blk (World.drewN (World.setCell (World.setCell w1 ⟨w.heap.size, 1, none⟩ (.bool false)) ⟨w.heap.size, 2, none⟩ (.int .i64 0)) nq) w.heap.size #[.int .i64 0, .bool false, .int .i64 0, .int .i64 ls, .int .i64 va, .int .i64 vo, .bool true, .bool gd] 32 := q1
  have k2 : Blk (World.drewN (World.setCell (World.setCell w1 ⟨w.heap.size, 1, none⟩ (.bool false)) ⟨w.heap.size, 2, none⟩ (.int .i64 0)) nq) (w.heap.size + 1) #[.int .i64 0, .bool false, .int .i64 0, .int .i64 0, .int .i64 0, .int .i64 0, .bool false, .bool false] 32 := q2
  clear q1 q2
  revert hb k1 k2
  generalize hw2 : World.drewN (World.setCell (World.setCell w1 ⟨w.heap.size, 1, none⟩ (.bool false)) ⟨w.heap.size, 2, none⟩ (.int .i64 0)) nq = w2
  intro hb k1 k2
  clear hw2
  clear a0 a1 a2 a3 a4 a5 a6 a7 b0 b1 b2 b3 b4 b5 b6 b7 fa fb
  have K1 := Lib.hid k1
  have K2 := Lib.hid k2
  have HB := Lib.hid hb
  clear hb k1 k2
  obtain ⟨a0, a1, a2, a3, a4, a5, a6, a7⟩ := cells8 K1.out
  obtain ⟨b0, b1, b2, b3, b4, b5, b6, b7⟩ := cells8 K2.out
  have fa := fun i => Blk.free K1.out i
  have fb := fun i => Blk.free K2.out i
  go_wp2_with fail
  refine bodyPost_ret (results_ct (p := 6) (u := 7) (ty := 32) (by kernel_rfl) _ _ (w.heap.size + 1) 32 #[.int .i64 0, .bool false, .int .i64 0, .int .i64 va, .int .i64 va, .int .i64 vo, .bool true, .bool gd] _ rfl (blk_put8 (Blk.far K2.out (p := ⟨w.heap.size, 3, none⟩) (by simp) (.int .i64 va)) (.int .i64 0) (.bool false) (.int .i64 0) (.int .i64 va) (.int .i64 va) (.int .i64 vo) (.bool true) (.bool gd)) Tryz.underlying32 rfl (by kernel_rfl)) rfl ?_
  exact ⟨rfl, below_put8 (Below.setCell HB.out (p := ⟨w.heap.size, 3, none⟩) (by simp) (.int .i64 va)) (by omega) _ _ _ _ _ _ _ _⟩
theorem ract4_f_st (gd : Bool) (n ls va vo v : Int) (hc : ∀ w, Calls Tryz.prog 63 #[.agg #[.int .i64 0, .bool true, .int .i64 n, .int .i64 ls, .int .i64 va, .int .i64 vo, .bool true, .bool gd]] w fun e w' => e = .returned (.bool true) ∧ Below w.heap.size w w') (h : decide (ls < va) = false) (w : World) : Calls Tryz.prog 36 #[.agg #[.int .i64 0, .bool true, .int .i64 n, .int .i64 ls, .int .i64 va, .int .i64 vo, .bool true, .bool gd], .int .i64 4, .int .i64 v] w fun e w' => e = .returned (.tuple #[.agg #[.int .i64 0, .bool false, .int .i64 0, .int .i64 ls, .int .i64 va, .int .i64 vo, .bool true, .bool gd], .int .i64 0]) ∧ Below w.heap.size w w' := by
  have hb0 := bits01
  have hb1 := bits11
  go_enter Tryz.func36, Tryz.ntmps36
  go_wp2_with fail
  refine (hc _).mono ?_
  rintro e w1 ⟨rfl, hB⟩
  obtain ⟨k1, k2, hB⟩ := two8 hB
  have K1 := Lib.hid k1
  have K2 := Lib.hid k2
  have HB := Lib.hid hB
  clear hB k1 k2
  obtain ⟨a0, a1, a2, a3, a4, a5, a6, a7⟩ := cells8 K1.out
  obtain ⟨b0, b1, b2, b3, b4, b5, b6, b7⟩ := cells8 K2.out
  have fa := fun i => Blk.free K1.out i
  have fb := fun i => Blk.free K2.out i
  go_wp2_with fail
  go_quiet (fail)
  have hb : Below w.heap.size w (World.drewN (World.setCell (World.setCell w1 ⟨w.heap.size, 1, none⟩ (.bool false)) ⟨w.heap.size, 2, none⟩ (.int .i64 0)) nq) := below_drewN (Below.setCell (Below.setCell HB.out (p := ⟨w.heap.size, 1, none⟩) (by simp) (.bool false)) (p := ⟨w.heap.size, 2, none⟩) (by simp) (.int .i64 0)) nq
  have q1 : Blk _ w.heap.size #[.int .i64 0, .bool false, .int .i64 0, .int .i64 ls, .int .i64 va, .int .i64 vo, .bool true, .bool gd] 32 := blk_eq (Blk.set (Blk.set K1.out 1 (.bool false)) 2 (.int .i64 0)) (by simp)
  have q2 : Blk _ (w.heap.size + 1) #[.int .i64 0, .bool false, .int .i64 0, .int .i64 0, .int .i64 0, .int .i64 0, .bool false, .bool false] 32 := blk_eq (Blk.far (Blk.far K2.out (p := ⟨w.heap.size, 1, none⟩) (by simp) (.bool false)) (p := ⟨w.heap.size, 2, none⟩) (by simp) (.int .i64 0)) (by simp)
  have k1 : Blk (World.drewN (World.setCell (World.setCell w1 ⟨w.heap.size, 1, none⟩ (.bool false)) ⟨w.heap.size, 2, none⟩ (.int .i64 0)) nq) w.heap.size #[.int .i64 0, .bool false, .int .i64 0, .int .i64 ls, .int .i64 va, .int .i64 vo, .bool true, .bool gd] 32 := q1
  have k2 : Blk (World.drewN (World.setCell (World.setCell w1 ⟨w.heap.size, 1, none⟩ (.bool false)) ⟨w.heap.size, 2, none⟩ (.int .i64 0)) nq) (w.heap.size + 1) #[.int .i64 0, .bool false, .int .i64 0, .int .i64 0, .int .i64 0, .int .i64 0, .bool false, .bool false] 32 := q2
  clear q1 q2
  revert hb k1 k2
  generalize hw2 : World.drewN (World.setCell (World.setCell w1 ⟨w.heap.size, 1, none⟩ (.bool false)) ⟨w.heap.size, 2, none⟩ (.int .i64 0)) nq = w2
  intro hb k1 k2
  clear hw2
  clear a0 a1 a2 a3 a4 a5 a6 a7 b0 b1 b2 b3 b4 b5 b6 b7 fa fb
  have K1 := Lib.hid k1
  have K2 := Lib.hid k2
  have HB := Lib.hid hb
  clear hb k1 k2
  obtain ⟨a0, a1, a2, a3, a4, a5, a6, a7⟩ := cells8 K1.out
  obtain ⟨b0, b1, b2, b3, b4, b5, b6, b7⟩ := cells8 K2.out
  have fa := fun i => Blk.free K1.out i
  have fb := fun i => Blk.free K2.out i
  go_wp2_with fail
  refine bodyPost_ret (results_ct (p := 6) (u := 7) (ty := 32) (by kernel_rfl) _ _ (w.heap.size + 1) 32 #[.int .i64 0, .bool false, .int .i64 0, .int .i64 ls, .int .i64 va, .int .i64 vo, .bool true, .bool gd] _ rfl (blk_put8 K2.out (.int .i64 0) (.bool false) (.int .i64 0) (.int .i64 ls) (.int .i64 va) (.int .i64 vo) (.bool true) (.bool gd)) Tryz.underlying32 rfl (by kernel_rfl)) rfl ?_
  exact ⟨rfl, below_put8 HB.out (by omega) _ _ _ _ _ _ _ _⟩
theorem ract0_t_tr (gd : Bool) (n ls va vo v : Int) (hc : ∀ w, Calls Tryz.prog 63 #[.agg #[.int .i64 1, .bool true, .int .i64 n, .int .i64 ls, .int .i64 vo, .int .i64 va, .bool gd, .bool true]] w fun e w' => e = .returned (.bool true) ∧ Below w.heap.size w w') (w : World) : Calls Tryz.prog 36 #[.agg #[.int .i64 1, .bool true, .int .i64 n, .int .i64 ls, .int .i64 vo, .int .i64 va, .bool gd, .bool true], .int .i64 0, .int .i64 v] w fun e w' => e = .returned (.tuple #[.agg #[.int .i64 0, .bool false, .int .i64 0, .int .i64 0, .int .i64 0, .int .i64 0, .bool false, .bool false], .int .i64 211]) ∧ Below w.heap.size w w' := by
  have hb0 := bits01
  have hb1 := bits11
  go_enter Tryz.func36, Tryz.ntmps36
  go_wp2_with fail
  refine (hc _).mono ?_
  rintro e w1 ⟨rfl, hB⟩
  obtain ⟨k1, k2, hB⟩ := two8 hB
  have K1 := Lib.hid k1
  have K2 := Lib.hid k2
  have HB := Lib.hid hB
  clear hB k1 k2
  obtain ⟨a0, a1, a2, a3, a4, a5, a6, a7⟩ := cells8 K1.out
  obtain ⟨b0, b1, b2, b3, b4, b5, b6, b7⟩ := cells8 K2.out
  have fa := fun i => Blk.free K1.out i
  have fb := fun i => Blk.free K2.out i
  go_wp2_with fail
  refine bodyPost_ret (results_ct (p := 6) (u := 7) (ty := 32) (by kernel_rfl) _ _ (w.heap.size + 1) 32 #[.int .i64 0, .bool false, .int .i64 0, .int .i64 0, .int .i64 0, .int .i64 0, .bool false, .bool false] _ rfl (blk_put8 K2.out (.int .i64 0) (.bool false) (.int .i64 0) (.int .i64 0) (.int .i64 0) (.int .i64 0) (.bool false) (.bool false)) Tryz.underlying32 rfl (by kernel_rfl)) rfl ?_
  exact ⟨rfl, below_put8 HB.out (by omega) _ _ _ _ _ _ _ _⟩
theorem ract0_t_old (gd : Bool) (n ls va vo v : Int) (hc : ∀ w, Calls Tryz.prog 63 #[.agg #[.int .i64 1, .bool false, .int .i64 n, .int .i64 ls, .int .i64 vo, .int .i64 va, .bool gd, .bool true]] w fun e w' => e = .returned (.bool true) ∧ Below w.heap.size w w') (h1 : decide (v < ls) = true) (w : World) : Calls Tryz.prog 36 #[.agg #[.int .i64 1, .bool false, .int .i64 n, .int .i64 ls, .int .i64 vo, .int .i64 va, .bool gd, .bool true], .int .i64 0, .int .i64 v] w fun e w' => e = .returned (.tuple #[.agg #[.int .i64 0, .bool false, .int .i64 0, .int .i64 0, .int .i64 0, .int .i64 0, .bool false, .bool false], .int .i64 210]) ∧ Below w.heap.size w w' := by
  have hb0 := bits01
  have hb1 := bits11
  go_enter Tryz.func36, Tryz.ntmps36
  go_wp2_with fail
  refine (hc _).mono ?_
  rintro e w1 ⟨rfl, hB⟩
  obtain ⟨k1, k2, hB⟩ := two8 hB
  have K1 := Lib.hid k1
  have K2 := Lib.hid k2
  have HB := Lib.hid hB
  clear hB k1 k2
  obtain ⟨a0, a1, a2, a3, a4, a5, a6, a7⟩ := cells8 K1.out
  obtain ⟨b0, b1, b2, b3, b4, b5, b6, b7⟩ := cells8 K2.out
  have fa := fun i => Blk.free K1.out i
  have fb := fun i => Blk.free K2.out i
  go_wp2_with fail
  refine bodyPost_ret (results_ct (p := 6) (u := 7) (ty := 32) (by kernel_rfl) _ _ (w.heap.size + 1) 32 #[.int .i64 0, .bool false, .int .i64 0, .int .i64 0, .int .i64 0, .int .i64 0, .bool false, .bool false] _ rfl (blk_put8 K2.out (.int .i64 0) (.bool false) (.int .i64 0) (.int .i64 0) (.int .i64 0) (.int .i64 0) (.bool false) (.bool false)) Tryz.underlying32 rfl (by kernel_rfl)) rfl ?_
  exact ⟨rfl, below_put8 HB.out (by omega) _ _ _ _ _ _ _ _⟩
theorem ract0_t_far (gd : Bool) (n ls va vo v : Int) (hc : ∀ w, Calls Tryz.prog 63 #[.agg #[.int .i64 1, .bool false, .int .i64 n, .int .i64 ls, .int .i64 vo, .int .i64 va, .bool gd, .bool true]] w fun e w' => e = .returned (.bool true) ∧ Below w.heap.size w w') (h1 : decide (v < ls) = false) (h2 : decide (1073741824 < v) = true) (w : World) : Calls Tryz.prog 36 #[.agg #[.int .i64 1, .bool false, .int .i64 n, .int .i64 ls, .int .i64 vo, .int .i64 va, .bool gd, .bool true], .int .i64 0, .int .i64 v] w fun e w' => e = .returned (.tuple #[.agg #[.int .i64 0, .bool false, .int .i64 0, .int .i64 0, .int .i64 0, .int .i64 0, .bool false, .bool false], .int .i64 1]) ∧ Below w.heap.size w w' := by
  have hb0 := bits01
  have hb1 := bits11
  go_enter Tryz.func36, Tryz.ntmps36
  go_wp2_with fail
  refine (hc _).mono ?_
  rintro e w1 ⟨rfl, hB⟩
  obtain ⟨k1, k2, hB⟩ := two8 hB
  have K1 := Lib.hid k1
  have K2 := Lib.hid k2
  have HB := Lib.hid hB
  clear hB k1 k2
  obtain ⟨a0, a1, a2, a3, a4, a5, a6, a7⟩ := cells8 K1.out
  obtain ⟨b0, b1, b2, b3, b4, b5, b6, b7⟩ := cells8 K2.out
  have fa := fun i => Blk.free K1.out i
  have fb := fun i => Blk.free K2.out i
  go_wp2_with fail
  refine bodyPost_ret (results_ct (p := 6) (u := 7) (ty := 32) (by kernel_rfl) _ _ (w.heap.size + 1) 32 #[.int .i64 0, .bool false, .int .i64 0, .int .i64 0, .int .i64 0, .int .i64 0, .bool false, .bool false] _ rfl (blk_put8 K2.out (.int .i64 0) (.bool false) (.int .i64 0) (.int .i64 0) (.int .i64 0) (.int .i64 0) (.bool false) (.bool false)) Tryz.underlying32 rfl (by kernel_rfl)) rfl ?_
  exact ⟨rfl, below_put8 HB.out (by omega) _ _ _ _ _ _ _ _⟩
theorem ract0_t_ok (gd : Bool) (n ls va vo v : Int) (hc : ∀ w, Calls Tryz.prog 63 #[.agg #[.int .i64 1, .bool false, .int .i64 n, .int .i64 ls, .int .i64 vo, .int .i64 va, .bool gd, .bool true]] w fun e w' => e = .returned (.bool true) ∧ Below w.heap.size w w') (h1 : decide (v < ls) = false) (h2 : decide (1073741824 < v) = false) (w : World) : Calls Tryz.prog 36 #[.agg #[.int .i64 1, .bool false, .int .i64 n, .int .i64 ls, .int .i64 vo, .int .i64 va, .bool gd, .bool true], .int .i64 0, .int .i64 v] w fun e w' => e = .returned (.tuple #[.agg #[.int .i64 1, .bool false, .int .i64 n, .int .i64 ls, .int .i64 v, .int .i64 va, .bool false, .bool true], .int .i64 0]) ∧ Below w.heap.size w w' := by
  have hb0 := bits01
  have hb1 := bits11
  go_enter Tryz.func36, Tryz.ntmps36
  go_wp2_with fail
  refine (hc _).mono ?_
  rintro e w1 ⟨rfl, hB⟩
  obtain ⟨k1, k2, hB⟩ := two8 hB
  have K1 := Lib.hid k1
  have K2 := Lib.hid k2
  have HB := Lib.hid hB
  clear hB k1 k2
  obtain ⟨a0, a1, a2, a3, a4, a5, a6, a7⟩ := cells8 K1.out
  obtain ⟨b0, b1, b2, b3, b4, b5, b6, b7⟩ := cells8 K2.out
  have fa := fun i => Blk.free K1.out i
  have fb := fun i => Blk.free K2.out i
  go_wp2_with fail
  refine bodyPost_ret (results_ct (p := 6) (u := 7) (ty := 32) (by kernel_rfl) _ _ (w.heap.size + 1) 32 #[.int .i64 1, .bool false, .int .i64 n, .int .i64 ls, .int .i64 v, .int .i64 va, .bool false, .bool true] _ rfl (blk_put8 (Blk.far (Blk.far K2.out (p := ⟨w.heap.size, 6, none⟩) (by simp) (.bool false)) (p := ⟨w.heap.size, 4, none⟩) (by simp) (.int .i64 v)) (.int .i64 1) (.bool false) (.int .i64 n) (.int .i64 ls) (.int .i64 v) (.int .i64 va) (.bool false) (.bool true)) Tryz.underlying32 rfl (by kernel_rfl)) rfl ?_
  exact ⟨rfl, below_put8 (Below.setCell (Below.setCell HB.out (p := ⟨w.heap.size, 6, none⟩) (by simp) (.bool false)) (p := ⟨w.heap.size, 4, none⟩) (by simp) (.int .i64 v)) (by omega) _ _ _ _ _ _ _ _⟩
theorem ract1_t_tr (gd : Bool) (n ls va vo v : Int) (hc : ∀ w, Calls Tryz.prog 63 #[.agg #[.int .i64 1, .bool true, .int .i64 n, .int .i64 ls, .int .i64 vo, .int .i64 va, .bool gd, .bool true]] w fun e w' => e = .returned (.bool true) ∧ Below w.heap.size w w') (w : World) : Calls Tryz.prog 36 #[.agg #[.int .i64 1, .bool true, .int .i64 n, .int .i64 ls, .int .i64 vo, .int .i64 va, .bool gd, .bool true], .int .i64 1, .int .i64 v] w fun e w' => e = .returned (.tuple #[.agg #[.int .i64 0, .bool false, .int .i64 0, .int .i64 0, .int .i64 0, .int .i64 0, .bool false, .bool false], .int .i64 211]) ∧ Below w.heap.size w w' := by
  have hb0 := bits01
  have hb1 := bits11
  go_enter Tryz.func36, Tryz.ntmps36
  go_wp2_with fail
  refine (hc _).mono ?_
  rintro e w1 ⟨rfl, hB⟩
  obtain ⟨k1, k2, hB⟩ := two8 hB
  have K1 := Lib.hid k1
  have K2 := Lib.hid k2
  have HB := Lib.hid hB
  clear hB k1 k2
  obtain ⟨a0, a1, a2, a3, a4, a5, a6, a7⟩ := cells8 K1.out
  obtain ⟨b0, b1, b2, b3, b4, b5, b6, b7⟩ := cells8 K2.out
  have fa := fun i => Blk.free K1.out i
  have fb := fun i => Blk.free K2.out i
  go_wp2_with fail
  refine bodyPost_ret (results_ct (p := 6) (u := 7) (ty := 32) (by kernel_rfl) _ _ (w.heap.size + 1) 32 #[.int .i64 0, .bool false, .int .i64 0, .int .i64 0, .int .i64 0, .int .i64 0, .bool false, .bool false] _ rfl (blk_put8 K2.out (.int .i64 0) (.bool false) (.int .i64 0) (.int .i64 0) (.int .i64 0) (.int .i64 0) (.bool false) (.bool false)) Tryz.underlying32 rfl (by kernel_rfl)) rfl ?_
  exact ⟨rfl, below_put8 HB.out (by omega) _ _ _ _ _ _ _ _⟩
theorem ract1_t_old (gd : Bool) (n ls va vo v : Int) (hc : ∀ w, Calls Tryz.prog 63 #[.agg #[.int .i64 1, .bool false, .int .i64 n, .int .i64 ls, .int .i64 vo, .int .i64 va, .bool gd, .bool true]] w fun e w' => e = .returned (.bool true) ∧ Below w.heap.size w w') (h1 : decide (vo < ls) = true) (w : World) : Calls Tryz.prog 36 #[.agg #[.int .i64 1, .bool false, .int .i64 n, .int .i64 ls, .int .i64 vo, .int .i64 va, .bool gd, .bool true], .int .i64 1, .int .i64 v] w fun e w' => e = .returned (.tuple #[.agg #[.int .i64 0, .bool false, .int .i64 0, .int .i64 0, .int .i64 0, .int .i64 0, .bool false, .bool false], .int .i64 210]) ∧ Below w.heap.size w w' := by
  have hb0 := bits01
  have hb1 := bits11
  go_enter Tryz.func36, Tryz.ntmps36
  go_wp2_with fail
  refine (hc _).mono ?_
  rintro e w1 ⟨rfl, hB⟩
  obtain ⟨k1, k2, hB⟩ := two8 hB
  have K1 := Lib.hid k1
  have K2 := Lib.hid k2
  have HB := Lib.hid hB
  clear hB k1 k2
  obtain ⟨a0, a1, a2, a3, a4, a5, a6, a7⟩ := cells8 K1.out
  obtain ⟨b0, b1, b2, b3, b4, b5, b6, b7⟩ := cells8 K2.out
  have fa := fun i => Blk.free K1.out i
  have fb := fun i => Blk.free K2.out i
  go_wp2_with fail
  go_quiet (fail)
  have hb : Below w.heap.size w (World.drewN w1 nq) := below_drewN HB.out nq
  have q1 : Blk _ w.heap.size #[.int .i64 1, .bool false, .int .i64 n, .int .i64 ls, .int .i64 vo, .int .i64 va, .bool gd, .bool true] 32 := blk_eq K1.out (by simp)
  have q2 : Blk _ (w.heap.size + 1) #[.int .i64 0, .bool false, .int .i64 0, .int .i64 0, .int .i64 0, .int .i64 0, .bool false, .bool false] 32 := blk_eq K2.out (by simp)
  have k1 : Blk (World.drewN w1 nq) w.heap.size #[.int .i64 1, .bool false, .int .i64 n, .int .i64 ls, .int .i64 vo, .int .i64 va, .bool gd, .bool true] 32 := q1
  have k2 : Blk (World.drewN w1 nq) (w.heap.size + 1) #[.int .i64 0, .bool false, .int .i64 0, .int .i64 0, .int .i64 0, .int .i64 0, .bool false, .bool false] 32 := q2
  clear q1 q2
  revert hb k1 k2
  generalize hw2 : World.drewN w1 nq = w2
  intro hb k1 k2
  clear hw2
  clear a0 a1 a2 a3 a4 a5 a6 a7 b0 b1 b2 b3 b4 b5 b6 b7 fa fb
  have K1 := Lib.hid k1
  have K2 := Lib.hid k2
  have HB := Lib.hid hb
  clear hb k1 k2
  obtain ⟨a0, a1, a2, a3, a4, a5, a6, a7⟩ := cells8 K1.out
  obtain ⟨b0, b1, b2, b3, b4, b5, b6, b7⟩ := cells8 K2.out
  have fa := fun i => Blk.free K1.out i
  have fb := fun i => Blk.free K2.out i
  go_wp2_with fail
  refine bodyPost_ret (results_ct (p := 6) (u := 7) (ty := 32) (by kernel_rfl) _ _ (w.heap.size + 1) 32 #[.int .i64 0, .bool false, .int .i64 0, .int .i64 0, .int .i64 0, .int .i64 0, .bool false, .bool false] _ rfl (blk_put8 K2.out (.int .i64 0) (.bool false) (.int .i64 0) (.int .i64 0) (.int .i64 0) (.int .i64 0) (.bool false) (.bool false)) Tryz.underlying32 rfl (by kernel_rfl)) rfl ?_
  exact ⟨rfl, below_put8 HB.out (by omega) _ _ _ _ _ _ _ _⟩
theorem ract1_t_ok (gd : Bool) (n ls va vo v : Int) (hc : ∀ w, Calls Tryz.prog 63 #[.agg #[.int .i64 1, .bool false, .int .i64 n, .int .i64 ls, .int .i64 vo, .int .i64 va, .bool gd, .bool true]] w fun e w' => e = .returned (.bool true) ∧ Below w.heap.size w w') (h1 : decide (vo < ls) = false) (w : World) : Calls Tryz.prog 36 #[.agg #[.int .i64 1, .bool false, .int .i64 n, .int .i64 ls, .int .i64 vo, .int .i64 va, .bool gd, .bool true], .int .i64 1, .int .i64 v] w fun e w' => e = .returned (.tuple #[.agg #[.int .i64 1, .bool false, .int .i64 n, .int .i64 ls, .int .i64 vo, .int .i64 va, .bool true, .bool true], .int .i64 0]) ∧ Below w.heap.size w w' := by
  have hb0 := bits01
  have hb1 := bits11
  go_enter Tryz.func36, Tryz.ntmps36
  go_wp2_with fail
  refine (hc _).mono ?_
  rintro e w1 ⟨rfl, hB⟩
  obtain ⟨k1, k2, hB⟩ := two8 hB
  have K1 := Lib.hid k1
  have K2 := Lib.hid k2
  have HB := Lib.hid hB
  clear hB k1 k2
  obtain ⟨a0, a1, a2, a3, a4, a5, a6, a7⟩ := cells8 K1.out
  obtain ⟨b0, b1, b2, b3, b4, b5, b6, b7⟩ := cells8 K2.out
  have fa := fun i => Blk.free K1.out i
  have fb := fun i => Blk.free K2.out i
  go_wp2_with fail
  go_quiet (fail)
  have hb : Below w.heap.size w (World.drewN w1 nq) := below_drewN HB.out nq
  have q1 : Blk _ w.heap.size #[.int .i64 1, .bool false, .int .i64 n, .int .i64 ls, .int .i64 vo, .int .i64 va, .bool gd, .bool true] 32 := blk_eq K1.out (by simp)
  have q2 : Blk _ (w.heap.size + 1) #[.int .i64 0, .bool false, .int .i64 0, .int .i64 0, .int .i64 0, .int .i64 0, .bool false, .bool false] 32 := blk_eq K2.out (by simp)
  have k1 : Blk (World.drewN w1 nq) w.heap.size #[.int .i64 1, .bool false, .int .i64 n, .int .i64 ls, .int .i64 vo, .int .i64 va, .bool gd, .bool true] 32 := q1
  have k2 : Blk (World.drewN w1 nq) (w.heap.size + 1) #[.int .i64 0, .bool false, .int .i64 0, .int .i64 0, .int .i64 0, .int .i64 0, .bool false, .bool false] 32 := q2
  clear q1 q2
  revert hb k1 k2
  generalize hw2 : World.drewN w1 nq = w2
  intro hb k1 k2
  clear hw2
  clear a0 a1 a2 a3 a4 a5 a6 a7 b0 b1 b2 b3 b4 b5 b6 b7 fa fb
  have K1 := Lib.hid k1
  have K2 := Lib.hid k2
  have HB := Lib.hid hb
  clear hb k1 k2
  obtain ⟨a0, a1, a2, a3, a4, a5, a6, a7⟩ := cells8 K1.out
  obtain ⟨b0, b1, b2, b3, b4, b5, b6, b7⟩ := cells8 K2.out
  have fa := fun i => Blk.free K1.out i
  have fb := fun i => Blk.free K2.out i
  go_wp2_with fail
  refine bodyPost_ret (results_ct (p := 6) (u := 7) (ty := 32) (by kernel_rfl) _ _ (w.heap.size + 1) 32 #[.int .i64 1, .bool false, .int .i64 n, .int .i64 ls, .int .i64 vo, .int .i64 va, .bool true, .bool true] _ rfl (blk_put8 (Blk.far K2.out (p := ⟨w.heap.size, 6, none⟩) (by simp) (.bool true)) (.int .i64 1) (.bool false) (.int .i64 n) (.int .i64 ls) (.int .i64 vo) (.int .i64 va) (.bool true) (.bool true)) Tryz.underlying32 rfl (by kernel_rfl)) rfl ?_
  exact ⟨rfl, below_put8 (Below.setCell HB.out (p := ⟨w.heap.size, 6, none⟩) (by simp) (.bool true)) (by omega) _ _ _ _ _ _ _ _⟩
theorem ract2_t_lo (tr gd : Bool) (n ls va vo t : Int) (hc : ∀ w, Calls Tryz.prog 63 #[.agg #[.int .i64 1, .bool tr, .int .i64 n, .int .i64 ls, .int .i64 vo, .int .i64 va, .bool gd, .bool true]] w fun e w' => e = .returned (.bool true) ∧ Below w.heap.size w w') (h1 : decide (t < 1) = true) (w : World) : Calls Tryz.prog 36 #[.agg #[.int .i64 1, .bool tr, .int .i64 n, .int .i64 ls, .int .i64 vo, .int .i64 va, .bool gd, .bool true], .int .i64 2, .int .i64 t] w fun e w' => e = .returned (.tuple #[.agg #[.int .i64 0, .bool false, .int .i64 0, .int .i64 0, .int .i64 0, .int .i64 0, .bool false, .bool false], .int .i64 1]) ∧ Below w.heap.size w w' := by
  have hb0 := bits01
  have hb1 := bits11
  go_enter Tryz.func36, Tryz.ntmps36
  go_wp2_with fail
  refine (hc _).mono ?_
  rintro e w1 ⟨rfl, hB⟩
  obtain ⟨k1, k2, hB⟩ := two8 hB
  have K1 := Lib.hid k1
  have K2 := Lib.hid k2
  have HB := Lib.hid hB
  clear hB k1 k2
  obtain ⟨a0, a1, a2, a3, a4, a5, a6, a7⟩ := cells8 K1.out
  obtain ⟨b0, b1, b2, b3, b4, b5, b6, b7⟩ := cells8 K2.out
  have fa := fun i => Blk.free K1.out i
  have fb := fun i => Blk.free K2.out i
  go_wp2_with fail
  refine bodyPost_ret (results_ct (p := 6) (u := 7) (ty := 32) (by kernel_rfl) _ _ (w.heap.size + 1) 32 #[.int .i64 0, .bool false, .int .i64 0, .int .i64 0, .int .i64 0, .int .i64 0, .bool false, .bool false] _ rfl (blk_put8 K2.out (.int .i64 0) (.bool false) (.int .i64 0) (.int .i64 0) (.int .i64 0) (.int .i64 0) (.bool false) (.bool false)) Tryz.underlying32 rfl (by kernel_rfl)) rfl ?_
  exact ⟨rfl, below_put8 HB.out (by omega) _ _ _ _ _ _ _ _⟩
theorem ract2_t_hi (tr gd : Bool) (n ls va vo t : Int) (hc : ∀ w, Calls Tryz.prog 63 #[.agg #[.int .i64 1, .bool tr, .int .i64 n, .int .i64 ls, .int .i64 vo, .int .i64 va, .bool gd, .bool true]] w fun e w' => e = .returned (.bool true) ∧ Below w.heap.size w w') (h1 : decide (t < 1) = false) (h2 : decide (7 < t) = true) (w : World) : Calls Tryz.prog 36 #[.agg #[.int .i64 1, .bool tr, .int .i64 n, .int .i64 ls, .int .i64 vo, .int .i64 va, .bool gd, .bool true], .int .i64 2, .int .i64 t] w fun e w' => e = .returned (.tuple #[.agg #[.int .i64 0, .bool false, .int .i64 0, .int .i64 0, .int .i64 0, .int .i64 0, .bool false, .bool false], .int .i64 1]) ∧ Below w.heap.size w w' := by
  have hb0 := bits01
  have hb1 := bits11
  go_enter Tryz.func36, Tryz.ntmps36
  go_wp2_with fail
  refine (hc _).mono ?_
  rintro e w1 ⟨rfl, hB⟩
  obtain ⟨k1, k2, hB⟩ := two8 hB
  have K1 := Lib.hid k1
  have K2 := Lib.hid k2
  have HB := Lib.hid hB
  clear hB k1 k2
  obtain ⟨a0, a1, a2, a3, a4, a5, a6, a7⟩ := cells8 K1.out
  obtain ⟨b0, b1, b2, b3, b4, b5, b6, b7⟩ := cells8 K2.out
  have fa := fun i => Blk.free K1.out i
  have fb := fun i => Blk.free K2.out i
  go_wp2_with fail
  refine bodyPost_ret (results_ct (p := 6) (u := 7) (ty := 32) (by kernel_rfl) _ _ (w.heap.size + 1) 32 #[.int .i64 0, .bool false, .int .i64 0, .int .i64 0, .int .i64 0, .int .i64 0, .bool false, .bool false] _ rfl (blk_put8 K2.out (.int .i64 0) (.bool false) (.int .i64 0) (.int .i64 0) (.int .i64 0) (.int .i64 0) (.bool false) (.bool false)) Tryz.underlying32 rfl (by kernel_rfl)) rfl ?_
  exact ⟨rfl, below_put8 HB.out (by omega) _ _ _ _ _ _ _ _⟩
theorem ract2_t_tr (gd : Bool) (n ls va vo t : Int) (hc : ∀ w, Calls Tryz.prog 63 #[.agg #[.int .i64 1, .bool true, .int .i64 n, .int .i64 ls, .int .i64 vo, .int .i64 va, .bool gd, .bool true]] w fun e w' => e = .returned (.bool true) ∧ Below w.heap.size w w') (h1 : decide (t < 1) = false) (h2 : decide (7 < t) = false) (w : World) : Calls Tryz.prog 36 #[.agg #[.int .i64 1, .bool true, .int .i64 n, .int .i64 ls, .int .i64 vo, .int .i64 va, .bool gd, .bool true], .int .i64 2, .int .i64 t] w fun e w' => e = .returned (.tuple #[.agg #[.int .i64 0, .bool false, .int .i64 0, .int .i64 0, .int .i64 0, .int .i64 0, .bool false, .bool false], .int .i64 211]) ∧ Below w.heap.size w w' := by
  have hb0 := bits01
  have hb1 := bits11
  go_enter Tryz.func36, Tryz.ntmps36
  go_wp2_with fail
  refine (hc _).mono ?_
  rintro e w1 ⟨rfl, hB⟩
  obtain ⟨k1, k2, hB⟩ := two8 hB
  have K1 := Lib.hid k1
  have K2 := Lib.hid k2
  have HB := Lib.hid hB
  clear hB k1 k2
  obtain ⟨a0, a1, a2, a3, a4, a5, a6, a7⟩ := cells8 K1.out
  obtain ⟨b0, b1, b2, b3, b4, b5, b6, b7⟩ := cells8 K2.out
  have fa := fun i => Blk.free K1.out i
  have fb := fun i => Blk.free K2.out i
  go_wp2_with fail
  refine bodyPost_ret (results_ct (p := 6) (u := 7) (ty := 32) (by kernel_rfl) _ _ (w.heap.size + 1) 32 #[.int .i64 0, .bool false, .int .i64 0, .int .i64 0, .int .i64 0, .int .i64 0, .bool false, .bool false] _ rfl (blk_put8 K2.out (.int .i64 0) (.bool false) (.int .i64 0) (.int .i64 0) (.int .i64 0) (.int .i64 0) (.bool false) (.bool false)) Tryz.underlying32 rfl (by kernel_rfl)) rfl ?_
  exact ⟨rfl, below_put8 HB.out (by omega) _ _ _ _ _ _ _ _⟩
theorem ract2_t_no (n ls va vo t : Int) (hc : ∀ w, Calls Tryz.prog 63 #[.agg #[.int .i64 1, .bool false, .int .i64 n, .int .i64 ls, .int .i64 vo, .int .i64 va, .bool false, .bool true]] w fun e w' => e = .returned (.bool true) ∧ Below w.heap.size w w') (h1 : decide (t < 1) = false) (h2 : decide (7 < t) = false) (w : World) : Calls Tryz.prog 36 #[.agg #[.int .i64 1, .bool false, .int .i64 n, .int .i64 ls, .int .i64 vo, .int .i64 va, .bool false, .bool true], .int .i64 2, .int .i64 t] w fun e w' => e = .returned (.tuple #[.agg #[.int .i64 0, .bool false, .int .i64 0, .int .i64 0, .int .i64 0, .int .i64 0, .bool false, .bool false], .int .i64 212]) ∧ Below w.heap.size w w' := by
  have hb0 := bits01
  have hb1 := bits11
  go_enter Tryz.func36, Tryz.ntmps36
  go_wp2_with fail
  refine (hc _).mono ?_
  rintro e w1 ⟨rfl, hB⟩
  obtain ⟨k1, k2, hB⟩ := two8 hB
  have K1 := Lib.hid k1
  have K2 := Lib.hid k2
  have HB := Lib.hid hB
  clear hB k1 k2
  obtain ⟨a0, a1, a2, a3, a4, a5, a6, a7⟩ := cells8 K1.out
  obtain ⟨b0, b1, b2, b3, b4, b5, b6, b7⟩ := cells8 K2.out
  have fa := fun i => Blk.free K1.out i
  have fb := fun i => Blk.free K2.out i
  go_wp2_with fail
  refine bodyPost_ret (results_ct (p := 6) (u := 7) (ty := 32) (by kernel_rfl) _ _ (w.heap.size + 1) 32 #[.int .i64 0, .bool false, .int .i64 0, .int .i64 0, .int .i64 0, .int .i64 0, .bool false, .bool false] _ rfl (blk_put8 K2.out (.int .i64 0) (.bool false) (.int .i64 0) (.int .i64 0) (.int .i64 0) (.int .i64 0) (.bool false) (.bool false)) Tryz.underlying32 rfl (by kernel_rfl)) rfl ?_
  exact ⟨rfl, below_put8 HB.out (by omega) _ _ _ _ _ _ _ _⟩
theorem ract2_t_old (n ls va vo t : Int) (hc : ∀ w, Calls Tryz.prog 63 #[.agg #[.int .i64 1, .bool false, .int .i64 n, .int .i64 ls, .int .i64 vo, .int .i64 va, .bool true, .bool true]] w fun e w' => e = .returned (.bool true) ∧ Below w.heap.size w w') (h1 : decide (t < 1) = false) (h2 : decide (7 < t) = false) (h3 : decide (vo < ls) = true) (w : World) : Calls Tryz.prog 36 #[.agg #[.int .i64 1, .bool false, .int .i64 n, .int .i64 ls, .int .i64 vo, .int .i64 va, .bool true, .bool true], .int .i64 2, .int .i64 t] w fun e w' => e = .returned (.tuple #[.agg #[.int .i64 0, .bool false, .int .i64 0, .int .i64 0, .int .i64 0, .int .i64 0, .bool false, .bool false], .int .i64 210]) ∧ Below w.heap.size w w' := by
  have hb0 := bits01
  have hb1 := bits11
  go_enter Tryz.func36, Tryz.ntmps36
  go_wp2_with fail
  refine (hc _).mono ?_
  rintro e w1 ⟨rfl, hB⟩
  obtain ⟨k1, k2, hB⟩ := two8 hB
  have K1 := Lib.hid k1
  have K2 := Lib.hid k2
  have HB := Lib.hid hB
  clear hB k1 k2
  obtain ⟨a0, a1, a2, a3, a4, a5, a6, a7⟩ := cells8 K1.out
  obtain ⟨b0, b1, b2, b3, b4, b5, b6, b7⟩ := cells8 K2.out
  have fa := fun i => Blk.free K1.out i
  have fb := fun i => Blk.free K2.out i
  go_wp2_with fail
  go_quiet (fail)
  have hb : Below w.heap.size w (World.drewN w1 nq) := below_drewN HB.out nq
  have q1 : Blk _ w.heap.size #[.int .i64 1, .bool false, .int .i64 n, .int .i64 ls, .int .i64 vo, .int .i64 va, .bool true, .bool true] 32 := blk_eq K1.out (by simp)
  have q2 : Blk _ (w.heap.size + 1) #[.int .i64 0, .bool false, .int .i64 0, .int .i64 0, .int .i64 0, .int .i64 0, .bool false, .bool false] 32 := blk_eq K2.out (by simp)
  have k1 : Blk (World.drewN w1 nq) w.heap.size #[.int .i64 1, .bool false, .int .i64 n, .int .i64 ls, .int .i64 vo, .int .i64 va, .bool true, .bool true] 32 := q1
  have k2 : Blk (World.drewN w1 nq) (w.heap.size + 1) #[.int .i64 0, .bool false, .int .i64 0, .int .i64 0, .int .i64 0, .int .i64 0, .bool false, .bool false] 32 := q2
  clear q1 q2
  revert hb k1 k2
  generalize hw2 : World.drewN w1 nq = w2
  intro hb k1 k2
  clear hw2
  clear a0 a1 a2 a3 a4 a5 a6 a7 b0 b1 b2 b3 b4 b5 b6 b7 fa fb
  have K1 := Lib.hid k1
  have K2 := Lib.hid k2
  have HB := Lib.hid hb
  clear hb k1 k2
  obtain ⟨a0, a1, a2, a3, a4, a5, a6, a7⟩ := cells8 K1.out
  obtain ⟨b0, b1, b2, b3, b4, b5, b6, b7⟩ := cells8 K2.out
  have fa := fun i => Blk.free K1.out i
  have fb := fun i => Blk.free K2.out i
  go_wp2_with fail
  refine bodyPost_ret (results_ct (p := 6) (u := 7) (ty := 32) (by kernel_rfl) _ _ (w.heap.size + 1) 32 #[.int .i64 0, .bool false, .int .i64 0, .int .i64 0, .int .i64 0, .int .i64 0, .bool false, .bool false] _ rfl (blk_put8 K2.out (.int .i64 0) (.bool false) (.int .i64 0) (.int .i64 0) (.int .i64 0) (.int .i64 0) (.bool false) (.bool false)) Tryz.underlying32 rfl (by kernel_rfl)) rfl ?_
  exact ⟨rfl, below_put8 HB.out (by omega) _ _ _ _ _ _ _ _⟩
theorem ract2_t_ok (n ls va vo t : Int) (hc : ∀ w, Calls Tryz.prog 63 #[.agg #[.int .i64 1, .bool false, .int .i64 n, .int .i64 ls, .int .i64 vo, .int .i64 va, .bool true, .bool true]] w fun e w' => e = .returned (.bool true) ∧ Below w.heap.size w w') (h1 : decide (t < 1) = false) (h2 : decide (7 < t) = false) (h3 : decide (vo < ls) = false) (w : World) : Calls Tryz.prog 36 #[.agg #[.int .i64 1, .bool false, .int .i64 n, .int .i64 ls, .int .i64 vo, .int .i64 va, .bool true, .bool true], .int .i64 2, .int .i64 t] w fun e w' => e = .returned (.tuple #[.agg #[.int .i64 0, .bool true, .int .i64 t, .int .i64 ls, .int .i64 vo, .int .i64 va, .bool true, .bool true], .int .i64 0]) ∧ Below w.heap.size w w' := by
  have hb0 := bits01
  have hb1 := bits11
  go_enter Tryz.func36, Tryz.ntmps36
  go_wp2_with fail
  refine (hc _).mono ?_
  rintro e w1 ⟨rfl, hB⟩
  obtain ⟨k1, k2, hB⟩ := two8 hB
  have K1 := Lib.hid k1
  have K2 := Lib.hid k2
  have HB := Lib.hid hB
  clear hB k1 k2
  obtain ⟨a0, a1, a2, a3, a4, a5, a6, a7⟩ := cells8 K1.out
  obtain ⟨b0, b1, b2, b3, b4, b5, b6, b7⟩ := cells8 K2.out
  have fa := fun i => Blk.free K1.out i
  have fb := fun i => Blk.free K2.out i
  go_wp2_with fail
  go_quiet (fail)
  have hb : Below w.heap.size w (World.drewN w1 nq) := below_drewN HB.out nq
  have q1 : Blk _ w.heap.size #[.int .i64 1, .bool false, .int .i64 n, .int .i64 ls, .int .i64 vo, .int .i64 va, .bool true, .bool true] 32 := blk_eq K1.out (by simp)
  have q2 : Blk _ (w.heap.size + 1) #[.int .i64 0, .bool false, .int .i64 0, .int .i64 0, .int .i64 0, .int .i64 0, .bool false, .bool false] 32 := blk_eq K2.out (by simp)
  have k1 : Blk (World.drewN w1 nq) w.heap.size #[.int .i64 1, .bool false, .int .i64 n, .int .i64 ls, .int .i64 vo, .int .i64 va, .bool true, .bool true] 32 := q1
  have k2 : Blk (World.drewN w1 nq) (w.heap.size + 1) #[.int .i64 0, .bool false, .int .i64 0, .int .i64 0, .int .i64 0, .int .i64 0, .bool false, .bool false] 32 := q2
  clear q1 q2
  revert hb k1 k2
  generalize hw2 : World.drewN w1 nq = w2
  intro hb k1 k2
  clear hw2
  clear a0 a1 a2 a3 a4 a5 a6 a7 b0 b1 b2 b3 b4 b5 b6 b7 fa fb
  have K1 := Lib.hid k1
  have K2 := Lib.hid k2
  have HB := Lib.hid hb
  clear hb k1 k2
  obtain ⟨a0, a1, a2, a3, a4, a5, a6, a7⟩ := cells8 K1.out
  obtain ⟨b0, b1, b2, b3, b4, b5, b6, b7⟩ := cells8 K2.out
  have fa := fun i => Blk.free K1.out i
  have fb := fun i => Blk.free K2.out i
  go_wp2_with fail
  refine bodyPost_ret (results_ct (p := 6) (u := 7) (ty := 32) (by kernel_rfl) _ _ (w.heap.size + 1) 32 #[.int .i64 0, .bool true, .int .i64 t, .int .i64 ls, .int .i64 vo, .int .i64 va, .bool true, .bool true] _ rfl (blk_put8 (Blk.far (Blk.far (Blk.far K2.out (p := ⟨w.heap.size, 0, none⟩) (by simp) (.int .i64 0)) (p := ⟨w.heap.size, 1, none⟩) (by simp) (.bool true)) (p := ⟨w.heap.size, 2, none⟩) (by simp) (.int .i64 t)) (.int .i64 0) (.bool true) (.int .i64 t) (.int .i64 ls) (.int .i64 vo) (.int .i64 va) (.bool true) (.bool true)) Tryz.underlying32 rfl (by kernel_rfl)) rfl ?_
  exact ⟨rfl, below_put8 (Below.setCell (Below.setCell (Below.setCell HB.out (p := ⟨w.heap.size, 0, none⟩) (by simp) (.int .i64 0)) (p := ⟨w.heap.size, 1, none⟩) (by simp) (.bool true)) (p := ⟨w.heap.size, 2, none⟩) (by simp) (.int .i64 t)) (by omega) _ _ _ _ _ _ _ _⟩
theorem ract3_t_trial (ls va vo v : Int) (n : Int) (gd : Bool) (hc : ∀ w, Calls Tryz.prog 63 #[.agg #[.int .i64 1, .bool true, .int .i64 n, .int .i64 ls, .int .i64 vo, .int .i64 va, .bool gd, .bool true]] w fun e w' => e = .returned (.bool true) ∧ Below w.heap.size w w') (hs : ∀ w, Calls Tryz.prog 64 #[.agg #[.int .i64 1, .bool true, .int .i64 n, .int .i64 ls, .int .i64 vo, .int .i64 va, .bool gd, .bool true]] w fun e w' => e = .returned (.int .i64 2) ∧ Below w.heap.size w w') (h : 1 ≤ n) (h7 : n ≤ 7) (w : World) : Calls Tryz.prog 36 #[.agg #[.int .i64 1, .bool true, .int .i64 n, .int .i64 ls, .int .i64 vo, .int .i64 va, .bool gd, .bool true], .int .i64 3, .int .i64 v] w fun e w' => e = .returned (.tuple #[.agg #[.int .i64 1, .bool true, .int .i64 (n - 1), .int .i64 ls, .int .i64 vo, .int .i64 va, .bool gd, .bool true], .int .i64 0]) ∧ Below w.heap.size w w' := by
  have hb0 := bits01
  have hb1 := bits11
  go_enter Tryz.func36, Tryz.ntmps36
  go_wp2_with fail
  refine (hc _).mono ?_
  rintro e w1 ⟨rfl, hB⟩
  obtain ⟨k1, k2, hB⟩ := two8 hB
  have K1 := Lib.hid k1
  have K2 := Lib.hid k2
  have HB := Lib.hid hB
  clear hB k1 k2
  obtain ⟨a0, a1, a2, a3, a4, a5, a6, a7⟩ := cells8 K1.out
  obtain ⟨b0, b1, b2, b3, b4, b5, b6, b7⟩ := cells8 K2.out
  have fa := fun i => Blk.free K1.out i
  have fb := fun i => Blk.free K2.out i
  go_wp2_with fail
  refine (hs _).mono ?_
  have k1 := K1.out
  have k2 := K2.out
  have hb := HB.out
  rintro e w2 ⟨rfl, hB⟩
  clear a0 a1 a2 a3 a4 a5 a6 a7 b0 b1 b2 b3 b4 b5 b6 b7 fa fb
  have K1 := Lib.hid (k1.below hB)
  have K2 := Lib.hid (k2.below hB)
  have HB := Lib.hid (hb.trans (hB.mono hb.size))
  clear hB k1 k2 hb
  obtain ⟨a0, a1, a2, a3, a4, a5, a6, a7⟩ := cells8 K1.out
  obtain ⟨b0, b1, b2, b3, b4, b5, b6, b7⟩ := cells8 K2.out
  have fa := fun i => Blk.free K1.out i
  have fb := fun i => Blk.free K2.out i
  go_wp2_with fail
  refine bodyPost_ret (results_ct (p := 6) (u := 7) (ty := 32) (by kernel_rfl) _ _ (w.heap.size + 1) 32 #[.int .i64 1, .bool true, .int .i64 (n - 1), .int .i64 ls, .int .i64 vo, .int .i64 va, .bool gd, .bool true] _ rfl (blk_put8 (Blk.far K2.out (p := ⟨w.heap.size, 2, none⟩) (by simp) (.int .i64 (n - 1))) (.int .i64 1) (.bool true) (.int .i64 (n - 1)) (.int .i64 ls) (.int .i64 vo) (.int .i64 va) (.bool gd) (.bool true)) Tryz.underlying32 rfl (by kernel_rfl)) rfl ?_
  exact ⟨rfl, below_put8 (Below.setCell HB.out (p := ⟨w.heap.size, 2, none⟩) (by simp) (.int .i64 (n - 1))) (by omega) _ _ _ _ _ _ _ _⟩
theorem ract3_t_ready (ls va vo v : Int) (n : Int) (hc : ∀ w, Calls Tryz.prog 63 #[.agg #[.int .i64 1, .bool false, .int .i64 n, .int .i64 ls, .int .i64 vo, .int .i64 va, .bool true, .bool true]] w fun e w' => e = .returned (.bool true) ∧ Below w.heap.size w w') (hs : ∀ w, Calls Tryz.prog 64 #[.agg #[.int .i64 1, .bool false, .int .i64 n, .int .i64 ls, .int .i64 vo, .int .i64 va, .bool true, .bool true]] w fun e w' => e = .returned (.int .i64 1) ∧ Below w.heap.size w w') (w : World) : Calls Tryz.prog 36 #[.agg #[.int .i64 1, .bool false, .int .i64 n, .int .i64 ls, .int .i64 vo, .int .i64 va, .bool true, .bool true], .int .i64 3, .int .i64 v] w fun e w' => e = .returned (.tuple #[.agg #[.int .i64 1, .bool false, .int .i64 n, .int .i64 ls, .int .i64 vo, .int .i64 va, .bool true, .bool true], .int .i64 0]) ∧ Below w.heap.size w w' := by
  have hb0 := bits01
  have hb1 := bits11
  go_enter Tryz.func36, Tryz.ntmps36
  go_wp2_with fail
  refine (hc _).mono ?_
  rintro e w1 ⟨rfl, hB⟩
  obtain ⟨k1, k2, hB⟩ := two8 hB
  have K1 := Lib.hid k1
  have K2 := Lib.hid k2
  have HB := Lib.hid hB
  clear hB k1 k2
  obtain ⟨a0, a1, a2, a3, a4, a5, a6, a7⟩ := cells8 K1.out
  obtain ⟨b0, b1, b2, b3, b4, b5, b6, b7⟩ := cells8 K2.out
  have fa := fun i => Blk.free K1.out i
  have fb := fun i => Blk.free K2.out i
  go_wp2_with fail
  refine (hs _).mono ?_
  have k1 := K1.out
  have k2 := K2.out
  have hb := HB.out
  rintro e w2 ⟨rfl, hB⟩
  clear a0 a1 a2 a3 a4 a5 a6 a7 b0 b1 b2 b3 b4 b5 b6 b7 fa fb
  have K1 := Lib.hid (k1.below hB)
  have K2 := Lib.hid (k2.below hB)
  have HB := Lib.hid (hb.trans (hB.mono hb.size))
  clear hB k1 k2 hb
  obtain ⟨a0, a1, a2, a3, a4, a5, a6, a7⟩ := cells8 K1.out
  obtain ⟨b0, b1, b2, b3, b4, b5, b6, b7⟩ := cells8 K2.out
  have fa := fun i => Blk.free K1.out i
  have fb := fun i => Blk.free K2.out i
  go_wp2_with fail
  refine bodyPost_ret (results_ct (p := 6) (u := 7) (ty := 32) (by kernel_rfl) _ _ (w.heap.size + 1) 32 #[.int .i64 1, .bool false, .int .i64 n, .int .i64 ls, .int .i64 vo, .int .i64 va, .bool true, .bool true] _ rfl (blk_put8 K2.out (.int .i64 1) (.bool false) (.int .i64 n) (.int .i64 ls) (.int .i64 vo) (.int .i64 va) (.bool true) (.bool true)) Tryz.underlying32 rfl (by kernel_rfl)) rfl ?_
  exact ⟨rfl, below_put8 HB.out (by omega) _ _ _ _ _ _ _ _⟩
theorem ract3_t_plain (ls va vo v : Int) (n : Int) (hc : ∀ w, Calls Tryz.prog 63 #[.agg #[.int .i64 1, .bool false, .int .i64 n, .int .i64 ls, .int .i64 vo, .int .i64 va, .bool false, .bool true]] w fun e w' => e = .returned (.bool true) ∧ Below w.heap.size w w') (hs : ∀ w, Calls Tryz.prog 64 #[.agg #[.int .i64 1, .bool false, .int .i64 n, .int .i64 ls, .int .i64 vo, .int .i64 va, .bool false, .bool true]] w fun e w' => e = .returned (.int .i64 0) ∧ Below w.heap.size w w') (w : World) : Calls Tryz.prog 36 #[.agg #[.int .i64 1, .bool false, .int .i64 n, .int .i64 ls, .int .i64 vo, .int .i64 va, .bool false, .bool true], .int .i64 3, .int .i64 v] w fun e w' => e = .returned (.tuple #[.agg #[.int .i64 1, .bool false, .int .i64 n, .int .i64 ls, .int .i64 vo, .int .i64 va, .bool false, .bool true], .int .i64 0]) ∧ Below w.heap.size w w' := by
  have hb0 := bits01
  have hb1 := bits11
  go_enter Tryz.func36, Tryz.ntmps36
  go_wp2_with fail
  refine (hc _).mono ?_
  rintro e w1 ⟨rfl, hB⟩
  obtain ⟨k1, k2, hB⟩ := two8 hB
  have K1 := Lib.hid k1
  have K2 := Lib.hid k2
  have HB := Lib.hid hB
  clear hB k1 k2
  obtain ⟨a0, a1, a2, a3, a4, a5, a6, a7⟩ := cells8 K1.out
  obtain ⟨b0, b1, b2, b3, b4, b5, b6, b7⟩ := cells8 K2.out
  have fa := fun i => Blk.free K1.out i
  have fb := fun i => Blk.free K2.out i
  go_wp2_with fail
  refine (hs _).mono ?_
  have k1 := K1.out
  have k2 := K2.out
  have hb := HB.out
  rintro e w2 ⟨rfl, hB⟩
  clear a0 a1 a2 a3 a4 a5 a6 a7 b0 b1 b2 b3 b4 b5 b6 b7 fa fb
  have K1 := Lib.hid (k1.below hB)
  have K2 := Lib.hid (k2.below hB)
  have HB := Lib.hid (hb.trans (hB.mono hb.size))
  clear hB k1 k2 hb
  obtain ⟨a0, a1, a2, a3, a4, a5, a6, a7⟩ := cells8 K1.out
  obtain ⟨b0, b1, b2, b3, b4, b5, b6, b7⟩ := cells8 K2.out
  have fa := fun i => Blk.free K1.out i
  have fb := fun i => Blk.free K2.out i
  go_wp2_with fail
  refine bodyPost_ret (results_ct (p := 6) (u := 7) (ty := 32) (by kernel_rfl) _ _ (w.heap.size + 1) 32 #[.int .i64 1, .bool false, .int .i64 n, .int .i64 ls, .int .i64 vo, .int .i64 va, .bool false, .bool true] _ rfl (blk_put8 K2.out (.int .i64 1) (.bool false) (.int .i64 n) (.int .i64 ls) (.int .i64 vo) (.int .i64 va) (.bool false) (.bool true)) Tryz.underlying32 rfl (by kernel_rfl)) rfl ?_
  exact ⟨rfl, below_put8 HB.out (by omega) _ _ _ _ _ _ _ _⟩
theorem ract3_t_last (gd : Bool) (ls va vo v : Int) (hc : ∀ w, Calls Tryz.prog 63 #[.agg #[.int .i64 1, .bool true, .int .i64 0, .int .i64 ls, .int .i64 vo, .int .i64 va, .bool gd, .bool true]] w fun e w' => e = .returned (.bool true) ∧ Below w.heap.size w w') (hs : ∀ w, Calls Tryz.prog 64 #[.agg #[.int .i64 1, .bool true, .int .i64 0, .int .i64 ls, .int .i64 vo, .int .i64 va, .bool gd, .bool true]] w fun e w' => e = .returned (.int .i64 3) ∧ Below w.heap.size w w') (ht : ∀ w, Calls Tryz.prog 65 #[.agg #[.int .i64 1, .bool true, .int .i64 0, .int .i64 ls, .int .i64 vo, .int .i64 va, .bool gd, .bool true]] w fun e w' => e = .returned (.tuple #[.agg #[.int .i64 0, .bool false, .int .i64 0, .int .i64 ls, .int .i64 vo, .int .i64 va, .bool gd, .bool false], .int .i64 0]) ∧ Below w.heap.size w w') (w : World) : Calls Tryz.prog 36 #[.agg #[.int .i64 1, .bool true, .int .i64 0, .int .i64 ls, .int .i64 vo, .int .i64 va, .bool gd, .bool true], .int .i64 3, .int .i64 v] w fun e w' => e = .returned (.tuple #[.agg #[.int .i64 0, .bool false, .int .i64 0, .int .i64 ls, .int .i64 vo, .int .i64 va, .bool gd, .bool false], .int .i64 0]) ∧ Below w.heap.size w w' := by
  have hb0 := bits01
  have hb1 := bits11
  go_enter Tryz.func36, Tryz.ntmps36
  go_wp2_with fail
  refine (hc _).mono ?_
  rintro e w1 ⟨rfl, hB⟩
  obtain ⟨k1, k2, hB⟩ := two8 hB
  have K1 := Lib.hid k1
  have K2 := Lib.hid k2
  have HB := Lib.hid hB
  clear hB k1 k2
  obtain ⟨a0, a1, a2, a3, a4, a5, a6, a7⟩ := cells8 K1.out
  obtain ⟨b0, b1, b2, b3, b4, b5, b6, b7⟩ := cells8 K2.out
  have fa := fun i => Blk.free K1.out i
  have fb := fun i => Blk.free K2.out i
  go_wp2_with fail
  refine (hs _).mono ?_
  have k1 := K1.out
  have k2 := K2.out
  have hb := HB.out
  rintro e w2 ⟨rfl, hB⟩
  clear a0 a1 a2 a3 a4 a5 a6 a7 b0 b1 b2 b3 b4 b5 b6 b7 fa fb
  have K1 := Lib.hid (k1.below hB)
  have K2 := Lib.hid (k2.below hB)
  have HB := Lib.hid (hb.trans (hB.mono hb.size))
  clear hB k1 k2 hb
  obtain ⟨a0, a1, a2, a3, a4, a5, a6, a7⟩ := cells8 K1.out
  obtain ⟨b0, b1, b2, b3, b4, b5, b6, b7⟩ := cells8 K2.out
  have fa := fun i => Blk.free K1.out i
  have fb := fun i => Blk.free K2.out i
  go_wp2_with fail
  refine (ht _).mono ?_
  have k1 := K1.out
  have k2 := K2.out
  have hb := HB.out
  rintro e w3 ⟨rfl, hB⟩
  clear a0 a1 a2 a3 a4 a5 a6 a7 b0 b1 b2 b3 b4 b5 b6 b7 fa fb
  have K1 := Lib.hid (k1.below hB)
  have K2 := Lib.hid (k2.below hB)
  have HB := Lib.hid (hb.trans (hB.mono hb.size))
  clear hB k1 k2 hb
  obtain ⟨a0, a1, a2, a3, a4, a5, a6, a7⟩ := cells8 K1.out
  obtain ⟨b0, b1, b2, b3, b4, b5, b6, b7⟩ := cells8 K2.out
  have fa := fun i => Blk.free K1.out i
  have fb := fun i => Blk.free K2.out i
  go_wp2_with fail
  refine bodyPost_ret (results_ct (p := 6) (u := 7) (ty := 32) (by kernel_rfl) _ _ (w.heap.size + 1) 32 #[.int .i64 0, .bool false, .int .i64 0, .int .i64 ls, .int .i64 vo, .int .i64 va, .bool gd, .bool false] _ rfl (blk_put8 K2.out (.int .i64 0) (.bool false) (.int .i64 0) (.int .i64 ls) (.int .i64 vo) (.int .i64 va) (.bool gd) (.bool false)) Tryz.underlying32 rfl (by kernel_rfl)) rfl ?_
  exact ⟨rfl, below_put8 HB.out (by omega) _ _ _ _ _ _ _ _⟩
theorem ract4_t_no (gd : Bool) (n ls va vo v : Int) (hc : ∀ w, Calls Tryz.prog 63 #[.agg #[.int .i64 1, .bool false, .int .i64 n, .int .i64 ls, .int .i64 vo, .int .i64 va, .bool gd, .bool true]] w fun e w' => e = .returned (.bool true) ∧ Below w.heap.size w w') (w : World) : Calls Tryz.prog 36 #[.agg #[.int .i64 1, .bool false, .int .i64 n, .int .i64 ls, .int .i64 vo, .int .i64 va, .bool gd, .bool true], .int .i64 4, .int .i64 v] w fun e w' => e = .returned (.tuple #[.agg #[.int .i64 0, .bool false, .int .i64 0, .int .i64 0, .int .i64 0, .int .i64 0, .bool false, .bool false], .int .i64 211]) ∧ Below w.heap.size w w' := by
  have hb0 := bits01
  have hb1 := bits11
  go_enter Tryz.func36, Tryz.ntmps36
  go_wp2_with fail
  refine (hc _).mono ?_
  rintro e w1 ⟨rfl, hB⟩
  obtain ⟨k1, k2, hB⟩ := two8 hB
  have K1 := Lib.hid k1
  have K2 := Lib.hid k2
  have HB := Lib.hid hB
  clear hB k1 k2
  obtain ⟨a0, a1, a2, a3, a4, a5, a6, a7⟩ := cells8 K1.out
  obtain ⟨b0, b1, b2, b3, b4, b5, b6, b7⟩ := cells8 K2.out
  have fa := fun i => Blk.free K1.out i
  have fb := fun i => Blk.free K2.out i
  go_wp2_with fail
  refine bodyPost_ret (results_ct (p := 6) (u := 7) (ty := 32) (by kernel_rfl) _ _ (w.heap.size + 1) 32 #[.int .i64 0, .bool false, .int .i64 0, .int .i64 0, .int .i64 0, .int .i64 0, .bool false, .bool false] _ rfl (blk_put8 K2.out (.int .i64 0) (.bool false) (.int .i64 0) (.int .i64 0) (.int .i64 0) (.int .i64 0) (.bool false) (.bool false)) Tryz.underlying32 rfl (by kernel_rfl)) rfl ?_
  exact ⟨rfl, below_put8 HB.out (by omega) _ _ _ _ _ _ _ _⟩
theorem ract4_t_up (gd : Bool) (n ls va vo v : Int) (hc : ∀ w, Calls Tryz.prog 63 #[.agg #[.int .i64 1, .bool true, .int .i64 n, .int .i64 ls, .int .i64 vo, .int .i64 va, .bool gd, .bool true]] w fun e w' => e = .returned (.bool true) ∧ Below w.heap.size w w') (h : decide (ls < va) = true) (w : World) : Calls Tryz.prog 36 #[.agg #[.int .i64 1, .bool true, .int .i64 n, .int .i64 ls, .int .i64 vo, .int .i64 va, .bool gd, .bool true], .int .i64 4, .int .i64 v] w fun e w' => e = .returned (.tuple #[.agg #[.int .i64 1, .bool false, .int .i64 0, .int .i64 va, .int .i64 vo, .int .i64 va, .bool gd, .bool true], .int .i64 0]) ∧ Below w.heap.size w w' := by
  have hb0 := bits01
  have hb1 := bits11
  go_enter Tryz.func36, Tryz.ntmps36
  go_wp2_with fail
  refine (hc _).mono ?_
  rintro e w1 ⟨rfl, hB⟩
  obtain ⟨k1, k2, hB⟩ := two8 hB
  have K1 := Lib.hid k1
  have K2 := Lib.hid k2
  have HB := Lib.hid hB
  clear hB k1 k2
  obtain ⟨a0, a1, a2, a3, a4, a5, a6, a7⟩ := cells8 K1.out
  obtain ⟨b0, b1, b2, b3, b4, b5, b6, b7⟩ := cells8 K2.out
  have fa := fun i => Blk.free K1.out i
  have fb := fun i => Blk.free K2.out i
  go_wp2_with fail
  go_quiet (fail)
  have hb : Below w.heap.size w (World.drewN (World.setCell (World.setCell w1 ⟨w.heap.size, 1, none⟩ (.bool false)) ⟨w.heap.size, 2, none⟩ (.int .i64 0)) nq) := below_drewN (Below.setCell (Below.setCell HB.out (p := ⟨w.heap.size, 1, none⟩) (by simp) (.bool false)) (p := ⟨w.heap.size, 2, none⟩) (by simp) (.int .i64 0)) nq
  have q1 : Blk _ w.heap.size #[.int .i64 1, .bool false, .int .i64 0, .int .i64 ls, .int .i64 vo, .int .i64 va, .bool gd, .bool true] 32 := blk_eq (Blk.set (Blk.set K1.out 1 (.bool false)) 2 (.int .i64 0)) (by simp)
  have q2 : Blk _ (w.heap.size + 1) #[.int .i64 0, .bool false, .int .i64 0, .int .i64 0, .int .i64 0, .int .i64 0, .bool false, .bool false] 32 := blk_eq (Blk.far (Blk.far K2.out (p := ⟨w.heap.size, 1, none⟩) (by simp) (.bool false)) (p := ⟨w.heap.size, 2, none⟩) (by simp) (.int .i64 0)) (by simp)
  have k1 : Blk (World.drewN (World.setCell (World.setCell w1 ⟨w.heap.size, 1, none⟩ (.bool false)) ⟨w.heap.size, 2, none⟩ (.int .i64 0)) nq) w.heap.size #[.int .i64 1, .bool false, .int .i64 0, .int .i64 ls, .int .i64 vo, .int .i64 va, .bool gd, .bool true] 32 := q1
  have k2 : Blk (World.drewN (World.setCell (World.setCell w1 ⟨w.heap.size, 1, none⟩ (.bool false)) ⟨w.heap.size, 2, none⟩ (.int .i64 0)) nq) (w.heap.size + 1) #[.int .i64 0, .bool false, .int .i64 0, .int .i64 0, .int .i64 0, .int .i64 0, .bool false, .bool false] 32 := q2
  clear q1 q2
  revert hb k1 k2
  generalize hw2 : World.drewN (World.setCell (World.setCell w1 ⟨w.heap.size, 1, none⟩ (.bool false)) ⟨w.heap.size, 2, none⟩ (.int .i64 0)) nq = w2
  intro hb k1 k2
  clear hw2
  clear a0 a1 a2 a3 a4 a5 a6 a7 b0 b1 b2 b3 b4 b5 b6 b7 fa fb
  have K1 := Lib.hid k1
  have K2 := Lib.hid k2
  have HB := Lib.hid hb
  clear hb k1 k2
  obtain ⟨a0, a1, a2, a3, a4, a5, a6, a7⟩ := cells8 K1.out
  obtain ⟨b0, b1, b2, b3, b4, b5, b6, b7⟩ := cells8 K2.out
  have fa := fun i => Blk.free K1.out i
  have fb := fun i => Blk.free K2.out i
  go_wp2_with fail
  refine bodyPost_ret (results_ct (p := 6) (u := 7) (ty := 32) (by kernel_rfl) _ _ (w.heap.size + 1) 32 #[.int .i64 1, .bool false, .int .i64 0, .int .i64 va, .int .i64 vo, .int .i64 va, .bool gd, .bool true] _ rfl (blk_put8 (Blk.far K2.out (p := ⟨w.heap.size, 3, none⟩) (by simp) (.int .i64 va)) (.int .i64 1) (.bool false) (.int .i64 0) (.int .i64 va) (.int .i64 vo) (.int .i64 va) (.bool gd) (.bool true)) Tryz.underlying32 rfl (by kernel_rfl)) rfl ?_
  exact ⟨rfl, below_put8 (Below.setCell HB.out (p := ⟨w.heap.size, 3, none⟩) (by simp) (.int .i64 va)) (by omega) _ _ _ _ _ _ _ _⟩
theorem ract4_t_st (gd : Bool) (n ls va vo v : Int) (hc : ∀ w, Calls Tryz.prog 63 #[.agg #[.int .i64 1, .bool true, .int .i64 n, .int .i64 ls, .int .i64 vo, .int .i64 va, .bool gd, .bool true]] w fun e w' => e = .returned (.bool true) ∧ Below w.heap.size w w') (h : decide (ls < va) = false) (w : World) : Calls Tryz.prog 36 #[.agg #[.int .i64 1, .bool true, .int .i64 n, .int .i64 ls, .int .i64 vo, .int .i64 va, .bool gd, .bool true], .int .i64 4, .int .i64 v] w fun e w' => e = .returned (.tuple #[.agg #[.int .i64 1, .bool false, .int .i64 0, .int .i64 ls, .int .i64 vo, .int .i64 va, .bool gd, .bool true], .int .i64 0]) ∧ Below w.heap.size w w' := by
  have hb0 := bits01
  have hb1 := bits11
  go_enter Tryz.func36, Tryz.ntmps36
  go_wp2_with fail
  refine (hc _).mono ?_
  rintro e w1 ⟨rfl, hB⟩
  obtain ⟨k1, k2, hB⟩ := two8 hB
  have K1 := Lib.hid k1
  have K2 := Lib.hid k2
  have HB := Lib.hid hB
  clear hB k1 k2
  obtain ⟨a0, a1, a2, a3, a4, a5, a6, a7⟩ := cells8 K1.out
  obtain ⟨b0, b1, b2, b3, b4, b5, b6, b7⟩ := cells8 K2.out
  have fa := fun i => Blk.free K1.out i
  have fb := fun i => Blk.free K2.out i
  go_wp2_with fail
  go_quiet (fail)
  have hb : Below w.heap.size w (World.drewN (World.setCell (World.setCell w1 ⟨w.heap.size, 1, none⟩ (.bool false)) ⟨w.heap.size, 2, none⟩ (.int .i64 0)) nq) := below_drewN (Below.setCell (Below.setCell HB.out (p := ⟨w.heap.size, 1, none⟩) (by simp) (.bool false)) (p := ⟨w.heap.size, 2, none⟩) (by simp) (.int .i64 0)) nq
  have q1 : Blk _ w.heap.size #[.int .i64 1, .bool false, .int .i64 0, .int .i64 ls, .int .i64 vo, .int .i64 va, .bool gd, .bool true] 32 := blk_eq (Blk.set (Blk.set K1.out 1 (.bool false)) 2 (.int .i64 0)) (by simp)
  have q2 : Blk _ (w.heap.size + 1) #[.int .i64 0, .bool false, .int .i64 0, .int .i64 0, .int .i64 0, .int .i64 0, .bool false, .bool false] 32 := blk_eq (Blk.far (Blk.far K2.out (p := ⟨w.heap.size, 1, none⟩) (by simp) (.bool false)) (p := ⟨w.heap.size, 2, none⟩) (by simp) (.int .i64 0)) (by simp)
  have k1 : Blk (World.drewN (World.setCell (World.setCell w1 ⟨w.heap.size, 1, none⟩ (.bool false)) ⟨w.heap.size, 2, none⟩ (.int .i64 0)) nq) w.heap.size #[.int .i64 1, .bool false, .int .i64 0, .int .i64 ls, .int .i64 vo, .int .i64 va, .bool gd, .bool true] 32 := q1
  have k2 : Blk (World.drewN (World.setCell (World.setCell w1 ⟨w.heap.size, 1, none⟩ (.bool false)) ⟨w.heap.size, 2, none⟩ (.int .i64 0)) nq) (w.heap.size + 1) #[.int .i64 0, .bool false, .int .i64 0, .int .i64 0, .int .i64 0, .int .i64 0, .bool false, .bool false] 32 := q2
  clear q1 q2
  revert hb k1 k2
  generalize hw2 : World.drewN (World.setCell (World.setCell w1 ⟨w.heap.size, 1, none⟩ (.bool false)) ⟨w.heap.size, 2, none⟩ (.int .i64 0)) nq = w2
  intro hb k1 k2
  clear hw2
  clear a0 a1 a2 a3 a4 a5 a6 a7 b0 b1 b2 b3 b4 b5 b6 b7 fa fb
  have K1 := Lib.hid k1
  have K2 := Lib.hid k2
  have HB := Lib.hid hb
  clear hb k1 k2
  obtain ⟨a0, a1, a2, a3, a4, a5, a6, a7⟩ := cells8 K1.out
  obtain ⟨b0, b1, b2, b3, b4, b5, b6, b7⟩ := cells8 K2.out
  have fa := fun i => Blk.free K1.out i
  have fb := fun i => Blk.free K2.out i
  go_wp2_with fail
  refine bodyPost_ret (results_ct (p := 6) (u := 7) (ty := 32) (by kernel_rfl) _ _ (w.heap.size + 1) 32 #[.int .i64 1, .bool false, .int .i64 0, .int .i64 ls, .int .i64 vo, .int .i64 va, .bool gd, .bool true] _ rfl (blk_put8 K2.out (.int .i64 1) (.bool false) (.int .i64 0) (.int .i64 ls) (.int .i64 vo) (.int .i64 va) (.bool gd) (.bool true)) Tryz.underlying32 rfl (by kernel_rfl)) rfl ?_
  exact ⟨rfl, below_put8 HB.out (by omega) _ _ _ _ _ _ _ _⟩
end Go.Proofs.YticnmogeknlmeaaGreatDoor.B
