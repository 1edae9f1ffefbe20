/- Helper: a manifest's bytes, what is kept of slots as bytes; put; walked. what is kept of slots out of bytes; walked. No condition. -/
import Derived.Test.YticnmogeknlmeaaGreatDoorN23
import Derived.Test.YticnmogeknlmeaaGreatDoorN12
import Derived.Test.YticnmogeknlmeaaGreatDoorN01
namespace Go.Proofs.YticnmogeknlmeaaGreatDoor.B
open Go.RowKit Go.Proofs.YticnmogeknlmeaaGreatDoorW.PrintWords Go.Proofs.YticnmogeknlmeaaGreatDoor.Later
set_option maxRecDepth 100000
set_option maxHeartbeats 1600000
/-- A manifest's bytes. -/
def manB (m : Man) : List UInt8 := numL m.v ++ numL m.n ++ m.d
theorem wnum (n : Nat) (hn : n < 18446744073709551616) (w : World) : Calls Tryz.prog 71 #[.int .u64 (IntKind.u64.wrap (n : Int))] w fun e w' => e = .returned (.string (bs (numL n))) ∧ Below w.heap.size w w' := by
  rw [wrap_u64 n hn]
  exact num_any n hn w
theorem mput_any (m : Man) (hv : m.v < 2147483648) (hn : m.n < 2147483648) (hd : m.d.length ≤ 10000) (w : World) : Calls Tryz.prog 47 #[.agg m.cells] w fun e w' => e = .returned (.string (bs (manB m))) ∧ Below w.heap.size w w' := by
  have hm := Lib.hid (show manB m = numL m.v ++ numL m.n ++ m.d from rfl)
  have l1 := numL_len (n := m.v) (by omega)
  have l2 := numL_len (n := m.n) (by omega)
  have HV := Lib.hid (fun w => wnum m.v (by omega) w)
  have HN := Lib.hid (fun w => wnum m.n (by omega) w)
  obtain ⟨P1, h1⟩ : ∃ P, P = numL m.v := ⟨_, rfl⟩
  obtain ⟨P2, h2⟩ : ∃ P, P = numL m.n := ⟨_, rfl⟩
  obtain ⟨P3, h3⟩ : ∃ P, P = m.d := ⟨_, rfl⟩
  rw [← h1] at hm l1 HV
  rw [← h2] at hm l2 HN
  rw [← h3] at hm hd
  have z1 := bs_size P1
  have z2 := bs_size P2
  have z3 := bs_size P3
  show Calls Tryz.prog 47 #[.agg #[.int .i64 (m.v : Int), .int .i64 (m.n : Int), .string (bs m.d)]] w _
  rw [← h3]
  clear h1 h2 h3 hv hn
  go_enter Tryz.func47, Tryz.ntmps47
  go_upto_region 1 with fail
  obtain ⟨w1, hw1⟩ : ∃ w1, w1 = w.alloc (.cells #[.int .i64 (m.v : Int), .int .i64 (m.n : Int), .string (bs P3)] 34) := ⟨_, rfl⟩
  have hB1 : Below w.heap.size w w1 := by rw [hw1]; exact (Below.refl _ _).alloc (Nat.le_refl _) _
  have hb1 : Blk w1 w.heap.size #[.int .i64 (m.v : Int), .int .i64 (m.n : Int), .string (bs P3)] 34 := by rw [hw1]; exact Blk.new w _ 34
  rw [← hw1]
  have c0 : w1.cell? ⟨w.heap.size, 0, none⟩ = some (.int .i64 (m.v : Int)) := hb1.cell 0
  have c1 : w1.cell? ⟨w.heap.size, 1, none⟩ = some (.int .i64 (m.n : Int)) := hb1.cell 1
  have c2 : w1.cell? ⟨w.heap.size, 2, none⟩ = some (.string (bs P3)) := hb1.cell 2
  have HB1 := Lib.hid hB1
  have k0 := fun n => later_cell c0 n
  have k1 := fun n => later_cell c1 n
  have k2 := fun n => later_cell c2 n
  clear hw1 hB1 hb1 c0 c1 c2
  refine wp_region_later (by kernel_rfl) (by kernel_rfl) ?_
  repeat go_big_quiet_step (fail)
  go_big_quiet_step (with_reducible exact calls_later (fun w1 _ => HV.out w1) _)
  repeat go_big_quiet_step (fail)
  go_big_quiet_step (with_reducible exact calls_later (fun w1 _ => HN.out w1) _)
  repeat go_big_quiet_step (fail)
  refine wpQuiet_nil ?_
  intro w2 hw2
  have HB2 := Lib.hid (HB1.out.trans ((later_of hw2).mono HB1.out.size))
  clear hw2 k0 k1 k2
  go_wp2_with fail
  go_ret
  refine ⟨?_, HB2.out⟩
  rw [hm.out]
  simp only [bs_app]
  rfl
def bN (b : Bool) : Nat := if b then 1 else 0
theorem flag_any (b : Bool) (w : World) : Calls Tryz.prog 72 #[.bool b] w fun e w' => e = .returned (.int .u64 (bN b : Int)) ∧ w' = w := by
  cases b
  · go_enter Tryz.func72, Tryz.ntmps72
    go_wp2_with fail
    go_ret
    exact ⟨rfl, rfl⟩
  · go_enter Tryz.func72, Tryz.ntmps72
    go_wp2_with fail
    go_ret
    exact ⟨rfl, rfl⟩
/-- What is kept, as bytes: the eight numbers. -/
def Bt.N (b : Bt) : List Nat := match b.ac with
  | false => [0, bN b.tr, b.n, b.ls, b.va, 1, b.vo, bN b.gd]
  | true => [1, bN b.tr, b.n, b.ls, b.vo, bN b.gd, b.va, 1]
def numsL (l : List Nat) : List UInt8 := l.flatMap numL
def Bt.B (b : Bt) : List UInt8 := numsL b.N
theorem tput_x (a n ls v0 v1 : Nat) (tr g0 g1 : Bool) (ha : a ≤ 1) (hn : n ≤ 7) (hl : ls < 2147483648) (h0 : v0 < 2147483648) (h1 : v1 < 2147483648) (w : World) : Calls Tryz.prog 42 #[.agg #[.int .i64 (a : Int), .bool tr, .int .i64 (n : Int), .int .i64 (ls : Int), .int .i64 (v0 : Int), .int .i64 (v1 : Int), .bool g0, .bool g1]] w fun e w' => e = .returned (.string (bs (numsL [a, bN tr, n, ls, v0, bN g0, v1, bN g1]))) ∧ Below w.heap.size w w' := by
  have hbN : ∀ b, bN b < 18446744073709551616 := fun b => by cases b <;> decide
  have m0 := Lib.hid (fun w => wnum a (by omega) w)
  have m1 := Lib.hid (fun w => num_any (bN tr) (hbN _) w)
  have m2 := Lib.hid (fun w => wnum n (by omega) w)
  have m3 := Lib.hid (fun w => wnum ls (by omega) w)
  have m4 := Lib.hid (fun w => wnum v0 (by omega) w)
  have m5 := Lib.hid (fun w => num_any (bN g0) (hbN _) w)
  have m6 := Lib.hid (fun w => wnum v1 (by omega) w)
  have m7 := Lib.hid (fun w => num_any (bN g1) (hbN _) w)
  have l0 := numL_len (n := a) (by omega)
  have l1 := numL_len (n := bN tr) (hbN _)
  have l2 := numL_len (n := n) (by omega)
  have l3 := numL_len (n := ls) (by omega)
  have l4 := numL_len (n := v0) (by omega)
  have l5 := numL_len (n := bN g0) (hbN _)
  have l6 := numL_len (n := v1) (by omega)
  have l7 := numL_len (n := bN g1) (hbN _)
  have hm := Lib.hid (show numsL [a, bN tr, n, ls, v0, bN g0, v1, bN g1] = numL a ++ (numL (bN tr) ++ (numL n ++ (numL ls ++ (numL v0 ++ (numL (bN g0) ++ (numL v1 ++ (numL (bN g1) ++ []))))))) from rfl)
  obtain ⟨P0, e0⟩ : ∃ P, P = numL a := ⟨_, rfl⟩
  obtain ⟨P1, e1⟩ : ∃ P, P = numL (bN tr) := ⟨_, rfl⟩
  obtain ⟨P2, e2⟩ : ∃ P, P = numL n := ⟨_, rfl⟩
  obtain ⟨P3, e3⟩ : ∃ P, P = numL ls := ⟨_, rfl⟩
  obtain ⟨P4, e4⟩ : ∃ P, P = numL v0 := ⟨_, rfl⟩
  obtain ⟨P5, e5⟩ : ∃ P, P = numL (bN g0) := ⟨_, rfl⟩
  obtain ⟨P6, e6⟩ : ∃ P, P = numL v1 := ⟨_, rfl⟩
  obtain ⟨P7, e7⟩ : ∃ P, P = numL (bN g1) := ⟨_, rfl⟩
  rw [← e0, ← e1, ← e2, ← e3, ← e4, ← e5, ← e6, ← e7] at hm
  rw [← e0] at m0 l0
  rw [← e1] at m1 l1
  rw [← e2] at m2 l2
  rw [← e3] at m3 l3
  rw [← e4] at m4 l4
  rw [← e5] at m5 l5
  rw [← e6] at m6 l6
  rw [← e7] at m7 l7
  clear e0 e1 e2 e3 e4 e5 e6 e7 hbN ha hn hl h0 h1
  have z0 := bs_size P0
  have z1 := bs_size P1
  have z2 := bs_size P2
  have z3 := bs_size P3
  have z4 := bs_size P4
  have z5 := bs_size P5
  have z6 := bs_size P6
  have z7 := bs_size P7
  go_enter Tryz.func42, Tryz.ntmps42
  go_upto_region 1 with fail
  obtain ⟨w1, hw1⟩ : ∃ w1, w1 = w.alloc (.cells #[.int .i64 (a : Int), .bool tr, .int .i64 (n : Int), .int .i64 (ls : Int), .int .i64 (v0 : Int), .int .i64 (v1 : Int), .bool g0, .bool g1] 32) := ⟨_, rfl⟩
  have hB1 : Below w.heap.size w w1 := by rw [hw1]; exact (Below.refl _ _).alloc (Nat.le_refl _) _
  have hb1 : Blk w1 w.heap.size #[.int .i64 (a : Int), .bool tr, .int .i64 (n : Int), .int .i64 (ls : Int), .int .i64 (v0 : Int), .int .i64 (v1 : Int), .bool g0, .bool g1] 32 := by rw [hw1]; exact Blk.new w _ 32
  rw [← hw1]
  obtain ⟨a0, a1, a2, a3, a4, a5, a6, a7⟩ := cells8 hb1
  have HB1 := Lib.hid hB1
  have K1 := Lib.hid hb1
  have k0 := fun n => later_cell a0 n
  have k1 := fun n => later_cell a1 n
  have k2 := fun n => later_cell a2 n
  have k3 := fun n => later_cell a3 n
  clear hw1 hB1 hb1 a0 a1 a2 a3 a4 a5 a6 a7
  refine wp_region_later (by kernel_rfl) (by kernel_rfl) ?_
  repeat go_big_quiet_step (fail)
  go_big_quiet_step (with_reducible exact calls_later (fun w1 _ => m0.out w1) _)
  repeat go_big_quiet_step (fail)
  go_big_quiet_step (with_reducible exact calls_later (fun w1 _ => (flag_any tr w1).mono (fun e w' h => ⟨h.1, h.2 ▸ Below.refl _ _⟩)) _)
  repeat go_big_quiet_step (fail)
  go_big_quiet_step (with_reducible exact calls_later (fun w1 _ => m1.out w1) _)
  repeat go_big_quiet_step (fail)
  go_big_quiet_step (with_reducible exact calls_later (fun w1 _ => m2.out w1) _)
  repeat go_big_quiet_step (fail)
  go_big_quiet_step (with_reducible exact calls_later (fun w1 _ => m3.out w1) _)
  repeat go_big_quiet_step (fail)
  refine wpQuiet_nil ?_
  intro w2 hw2
  have hb2 := later_of hw2
  have HB2 := Lib.hid (HB1.out.trans (hb2.mono HB1.out.size))
  have K2 := Lib.hid (K1.out.below hb2)
  clear hw2 k0 k1 k2 k3 hb2
  go_wp2_with fail
  simp only [bs_app]
  obtain ⟨q1, hq1⟩ : ∃ q, q = P0 ++ P1 := ⟨_, rfl⟩
  rw [← hq1]
  obtain ⟨q2, hq2⟩ : ∃ q, q = q1 ++ P2 := ⟨_, rfl⟩
  rw [← hq2]
  obtain ⟨q3, hq3⟩ : ∃ q, q = q2 ++ P3 := ⟨_, rfl⟩
  rw [← hq3]
  have hq : q3.length ≤ 40 := by rw [hq3, hq2, hq1]; simp only [List.length_append]; omega
  have HQ := Lib.hid (show q3 = P0 ++ P1 ++ P2 ++ P3 by rw [hq3, hq2, hq1])
  clear hq1 hq2 hq3
  go_loopg [3, 4, 24] 2 (fun g x _ y wx => ∃ (i : Nat) (s : List UInt8), i + g = 2 ∧ y = .int .i64 (i : Int) ∧ x = .string (bs s) ∧ ((i = 0 → s = q3) ∧ (i = 1 → s = q3 ++ (P4 ++ P5)) ∧ (i = 2 → s = q3 ++ (P4 ++ P5) ++ (P6 ++ P7))) ∧ Blk wx w.heap.size #[.int .i64 (a : Int), .bool tr, .int .i64 (n : Int), .int .i64 (ls : Int), .int .i64 (v0 : Int), .int .i64 (v1 : Int), .bool g0, .bool g1] 32 ∧ Below w.heap.size w wx)
  case atStart => exact ⟨0, _, by omega, rfl, rfl, ⟨fun _ => rfl, fun h => by omega, fun h => by omega⟩, K2.out, HB2.out⟩
  case round =>
    obtain ⟨i, s, hi, rfl, rfl, hs, hk, hB⟩ := hrel
    have K := Lib.hid hk
    have HB := Lib.hid hB
    have HS := Lib.hid hs
    clear hk hB hs
    cases gk with
    | zero =>
      obtain rfl : i = 2 := by omega
      obtain rfl := HS.out.2.2 rfl
      go_wp2_with fail
      go_ret
      exact ⟨by rw [hm.out, HQ.out]; simp only [List.append_assoc, List.append_nil]; rfl, HB.out⟩
    | succ g =>
      rcases (show i = 0 ∨ i = 1 by omega) with rfl | rfl
      · obtain rfl : s = q3 := HS.out.1 rfl
        have zs := bs_size s
        have ls0 : s.length ≤ 100 := by omega
        obtain ⟨a0, a1, a2, a3, a4, a5, a6, a7⟩ := cells8 K.out
        have k4 := fun n => later_cell a4 n
        have k5 := fun n => later_cell a6 n
        clear a0 a1 a2 a3 a4 a5 a6 a7
        go_wp2_with fail
        refine wp_region_later (by kernel_rfl) (by kernel_rfl) ?_
        repeat go_big_quiet_step (fail)
        go_big_quiet_step (with_reducible exact calls_later (fun w1 _ => m4.out w1) _)
        repeat go_big_quiet_step (fail)
        go_big_quiet_step (with_reducible exact calls_later (fun w1 _ => (flag_any g0 w1).mono (fun e w' h => ⟨h.1, h.2 ▸ Below.refl _ _⟩)) _)
        repeat go_big_quiet_step (fail)
        go_big_quiet_step (with_reducible exact calls_later (fun w1 _ => m5.out w1) _)
        repeat go_big_quiet_step (fail)
        refine wpQuiet_nil ?_
        intro w3 hw3
        have hb3 := later_of hw3
        have HB3 := Lib.hid (HB.out.trans (hb3.mono HB.out.size))
        have K3 := Lib.hid (K.out.below hb3)
        clear hw3 k4 k5 hb3
        go_wp2_with fail
        go_roundg g
        case measure => omega
        case rel => exact ⟨1, s ++ (P4 ++ P5), by omega, rfl, by simp only [bs_app], ⟨fun h => by omega, fun h => rfl, fun h => by omega⟩, K3.out, HB3.out⟩
      · obtain rfl : s = q3 ++ (P4 ++ P5) := HS.out.2.1 rfl
        have zs := bs_size (q3 ++ (P4 ++ P5))
        have ls0 : (q3 ++ (P4 ++ P5)).length ≤ 100 := by simp only [List.length_append]; omega
        obtain ⟨a0, a1, a2, a3, a4, a5, a6, a7⟩ := cells8 K.out
        have k4 := fun n => later_cell a5 n
        have k5 := fun n => later_cell a7 n
        clear a0 a1 a2 a3 a4 a5 a6 a7
        obtain ⟨s, hs⟩ : ∃ s, s = q3 ++ (P4 ++ P5) := ⟨_, rfl⟩
        rw [← hs] at zs ls0 ⊢
        have Hs := Lib.hid hs
        clear hs
        go_wp2_with fail
        refine wp_region_later (by kernel_rfl) (by kernel_rfl) ?_
        repeat go_big_quiet_step (fail)
        go_big_quiet_step (with_reducible exact calls_later (fun w1 _ => m6.out w1) _)
        repeat go_big_quiet_step (fail)
        go_big_quiet_step (with_reducible exact calls_later (fun w1 _ => (flag_any g1 w1).mono (fun e w' h => ⟨h.1, h.2 ▸ Below.refl _ _⟩)) _)
        repeat go_big_quiet_step (fail)
        go_big_quiet_step (with_reducible exact calls_later (fun w1 _ => m7.out w1) _)
        repeat go_big_quiet_step (fail)
        refine wpQuiet_nil ?_
        intro w3 hw3
        have hb3 := later_of hw3
        have HB3 := Lib.hid (HB.out.trans (hb3.mono HB.out.size))
        have K3 := Lib.hid (K.out.below hb3)
        clear hw3 k4 k5 hb3
        go_wp2_with fail
        go_roundg g
        case measure => omega
        case rel => exact ⟨2, s ++ (P6 ++ P7), by omega, rfl, by simp only [bs_app], ⟨fun h => by omega, fun h => by omega, fun h => by rw [Hs.out]⟩, K3.out, HB3.out⟩
theorem tput_any (b : Bt) (h : b.Ok) (w : World) : Calls Tryz.prog 42 #[.agg b.V] w fun e w' => e = .returned (.string (bs b.B)) ∧ Below w.heap.size w w' := by
  obtain ⟨n7, l1, lM, a0, aM, oM, t0, t1⟩ := h
  obtain ⟨ac, tr, gd, n, ls, va, vo⟩ := b
  dsimp only at *
  cases ac
  · exact tput_x 0 n ls va vo tr true gd (by omega) n7 (by omega) (by omega) (by omega) w
  · exact tput_x 1 n ls vo va tr gd true (by omega) n7 (by omega) (by omega) (by omega) w
end Go.Proofs.YticnmogeknlmeaaGreatDoor.B
namespace Go.Proofs.YticnmogeknlmeaaGreatDoor.B
open Go.RowKit Go.Proofs.YticnmogeknlmeaaGreatDoorW.PrintWords Go.Proofs.YticnmogeknlmeaaGreatDoor.Later
set_option maxRecDepth 100000
set_option maxHeartbeats 1600000
theorem Mut.setNew {S : Nat → Prop} {w w' : World} (h : Mut S w w') {p : Addr} (hp : w.heap.size ≤ p.block) (v : Value) : Mut S w (w'.setCell p v) := by
  refine ⟨h.os, h.tape, h.output, ?_, fun i hi hs => ?_⟩
  · simpa [World.setCell] using h.size
  · exact (Below.heap_setCell w' p v i (fun e => by omega)).trans (h.block i hi hs)
theorem rget_any (n most : Nat) (rest : List UInt8) (hn : n ≤ most) (hm : most < 18446744073709551616) (g : Nat) (w : World) (h : RdAt w g ⟨numL n ++ rest, 0⟩) : Calls Tryz.prog 57 #[.pointer (some ⟨g, 0, none⟩), .int .u64 (most : Int)] w fun e w' => e = .returned (.int .u64 (n : Int)) ∧ RdAt w' g ⟨rest, 0⟩ ∧ Mut (only g) w w' := by
  have := rnum_any ⟨numL n ++ rest, 0⟩ most hm g w h
  rw [num_numL n most rest hn hm] at this
  exact this
theorem bN_one (b : Bool) : ((bN b : Int) == 1) = b := by cases b <;> rfl
theorem Mut.over {g : Nat} {w w1 w2 : World} (hm : Mut (only g) w1 w2) (hB : Below w.heap.size w w1) (hg : w.heap.size ≤ g) : Below w.heap.size w w2 := hB.trans (hm.below hB.size (fun i hi e => by have e : i = g := e; omega))
def getC (a n ls v0 v1 : Nat) (tr g0 g1 : Bool) : Nat → Array Value
  | 0 => #[.int .i64 (a : Int), .bool tr, .int .i64 (n : Int), .int .i64 (ls : Int), .int .i64 0, .int .i64 0, .bool false, .bool false]
  | 1 => #[.int .i64 (a : Int), .bool tr, .int .i64 (n : Int), .int .i64 (ls : Int), .int .i64 (v0 : Int), .int .i64 0, .bool g0, .bool false]
  | _ => #[.int .i64 (a : Int), .bool tr, .int .i64 (n : Int), .int .i64 (ls : Int), .int .i64 (v0 : Int), .int .i64 (v1 : Int), .bool g0, .bool g1]
def getR (v0 v1 : Nat) (g0 g1 : Bool) : Nat → List UInt8
  | 0 => numL v0 ++ (numL (bN g0) ++ (numL v1 ++ (numL (bN g1) ++ [])))
  | 1 => numL v1 ++ (numL (bN g1) ++ [])
  | _ => []
theorem tget_x (a n ls v0 v1 : Nat) (tr g0 g1 : Bool) (ha : a ≤ 1) (hn : n ≤ 7) (hl : ls ≤ 1073741824) (h0 : v0 ≤ 1073741824) (h1 : v1 ≤ 1073741824)
    (hc : ∀ w, Calls Tryz.prog 70 #[.agg #[.int .i64 (a : Int), .bool tr, .int .i64 (n : Int), .int .i64 (ls : Int), .int .i64 (v0 : Int), .int .i64 (v1 : Int), .bool g0, .bool g1]] w fun e w' => e = .returned (.bool true) ∧ Below w.heap.size w w') (w : World) : Calls Tryz.prog 51 #[.string (bs (numsL [a, bN tr, n, ls, v0, bN g0, v1, bN g1]))] w fun e w' => e = .returned (.tuple #[.agg #[.int .i64 (a : Int), .bool tr, .int .i64 (n : Int), .int .i64 (ls : Int), .int .i64 (v0 : Int), .int .i64 (v1 : Int), .bool g0, .bool g1], .int .i64 0]) ∧ Below w.heap.size w w' := by
  have hbN : ∀ b, bN b ≤ 1 := fun b => by cases b <;> decide
  have q1 := bN_one tr
  have q2 := bN_one g0
  have q3 := bN_one g1
  have HbN := Lib.hid hbN
  have Hc := Lib.hid hc
  clear hbN hc
  have hs : numsL [a, bN tr, n, ls, v0, bN g0, v1, bN g1] = numL a ++ (numL (bN tr) ++ (numL n ++ (numL ls ++ (numL v0 ++ (numL (bN g0) ++ (numL v1 ++ (numL (bN g1) ++ []))))))) := rfl
  rw [hs]
  obtain ⟨t, ht⟩ : ∃ t, t = numL a ++ (numL (bN tr) ++ (numL n ++ (numL ls ++ (numL v0 ++ (numL (bN g0) ++ (numL v1 ++ (numL (bN g1) ++ []))))))) := ⟨_, rfl⟩
  rw [← ht]
  have HT := Lib.hid ht
  clear ht hs
  go_enter Tryz.func51, Tryz.ntmps51
  go_wp2_with fail
  refine (new_any t _).mono ?_
  rintro e w1 ⟨rfl, hr, hB⟩
  have hsz : (w.alloc (.cells #[.int .i64 0, .bool false, .int .i64 0, .int .i64 0, .int .i64 0, .int .i64 0, .bool false, .bool false] 32)).heap.size = w.heap.size + 1 := by simp
  rw [hsz] at hr hB ⊢
  have k2 : Blk w1 w.heap.size bt0 32 := (Blk.new w bt0 32).below (by rw [show (w.alloc (.cells bt0 32)).heap.size = w.heap.size + 1 by simp]; exact hB)
  have hB1 : Below w.heap.size w w1 := ((Below.refl _ _).alloc (Nat.le_refl _) _).trans (hB.mono (by omega))
  rw [HT.out] at hr
  have hg2 : w.heap.size + 1 < w1.heap.size := Blk.lt hr
  have HR := Lib.hid hr
  have HK := Lib.hid k2
  have HB := Lib.hid hB1
  clear hr hB k2 hB1 hsz
  go_wp2_with fail
  refine (rget_any a 1 _ ha (by decide) _ _ HR.out).mono ?_
  rintro e w2 ⟨rfl, hr, hm⟩
  have HR := Lib.hid hr
  have HK := Lib.hid (HK.out.kept hm (fun e => by have e : w.heap.size = w.heap.size + 1 := e; omega))
  have HB := Lib.hid (hm.over HB.out (by omega))
  have hg2 : w.heap.size + 1 < w2.heap.size := Blk.lt hr
  clear hr hm
  go_wp2_with fail
  refine (rget_any (bN tr) 1 _ (HbN.out _) (by decide) _ _ HR.out).mono ?_
  rintro e w3 ⟨rfl, hr, hm⟩
  have HR := Lib.hid hr
  have HK := Lib.hid (HK.out.kept hm (fun e => by have e : w.heap.size = w.heap.size + 1 := e; omega))
  have HB := Lib.hid (hm.over HB.out (by omega))
  have hg2 : w.heap.size + 1 < w3.heap.size := Blk.lt hr
  clear hr hm
  go_wp2_with fail
  refine (rget_any n 7 _ hn (by decide) _ _ HR.out).mono ?_
  rintro e w4 ⟨rfl, hr, hm⟩
  have HR := Lib.hid hr
  have HK := Lib.hid (HK.out.kept hm (fun e => by have e : w.heap.size = w.heap.size + 1 := e; omega))
  have HB := Lib.hid (hm.over HB.out (by omega))
  have hg2 : w.heap.size + 1 < w4.heap.size := Blk.lt hr
  clear hr hm
  go_wp2_with fail
  refine (rget_any ls 1073741824 _ hl (by decide) _ _ HR.out).mono ?_
  rintro e w5 ⟨rfl, hr, hm⟩
  have HR := Lib.hid hr
  have HK := Lib.hid (HK.out.kept hm (fun e => by have e : w.heap.size = w.heap.size + 1 := e; omega))
  have HB := Lib.hid (hm.over HB.out (by omega))
  have hg2 : w.heap.size + 1 < w5.heap.size := Blk.lt hr
  clear hr hm
  go_wp2_with fail
  have hk := Blk.new w5 #[.int .i64 (a : Int), .bool tr, .int .i64 (n : Int), .int .i64 (ls : Int), .int .i64 0, .int .i64 0, .bool false, .bool false] 32
  have hal : Below w5.heap.size w5 (w5.alloc (.cells #[.int .i64 (a : Int), .bool tr, .int .i64 (n : Int), .int .i64 (ls : Int), .int .i64 0, .int .i64 0, .bool false, .bool false] 32)) := (Below.refl _ _).alloc (Nat.le_refl _) _
  have hR := Blk.below HR.out hal
  have hK := HK.out.below hal
  have hB := HB.out.trans (hal.mono HB.out.size)
  obtain ⟨gb, hgb⟩ : ∃ gb, gb = w5.heap.size := ⟨_, rfl⟩
  rw [← hgb] at hk hg2 ⊢
  obtain ⟨wl, hwl⟩ : ∃ wl, wl = w5.alloc (.cells #[.int .i64 (a : Int), .bool tr, .int .i64 (n : Int), .int .i64 (ls : Int), .int .i64 0, .int .i64 0, .bool false, .bool false] 32) := ⟨_, rfl⟩
  rw [← hwl] at hk hR hK hB ⊢
  have HG := Lib.hid hk
  have HR := Lib.hid hR
  have HK := Lib.hid hK
  have HB := Lib.hid hB
  clear hk hR hK hB hal hwl hgb
  go_loopg [6, 22] 2 (fun g _ z wx => ∃ i : Nat, i + g = 2 ∧ z = .int .i64 (i : Int) ∧ Blk wx gb (getC a n ls v0 v1 tr g0 g1 i) 32 ∧ RdAt wx (w.heap.size + 1) ⟨getR v0 v1 g0 g1 i, 0⟩ ∧ Blk wx w.heap.size bt0 32 ∧ Below w.heap.size w wx)
  case atStart => exact ⟨0, by omega, rfl, HG.out, HR.out, HK.out, HB.out⟩
  case round =>
    obtain ⟨i, hi, rfl, hG, hR, hK, hB⟩ := hrel
    have HG := Lib.hid hG
    have HR := Lib.hid hR
    have HK := Lib.hid hK
    have HB := Lib.hid hB
    clear hG hR hK hB
    cases gk with
    | zero =>
      obtain rfl : i = 2 := by omega
      have k1 : Blk wr gb #[.int .i64 (a : Int), .bool tr, .int .i64 (n : Int), .int .i64 (ls : Int), .int .i64 (v0 : Int), .int .i64 (v1 : Int), .bool g0, .bool g1] 32 := HG.out
      obtain ⟨a0, a1, a2, a3, a4, a5, a6, a7⟩ := cells8 k1
      have K1 := Lib.hid k1
      clear k1
      have hend : ∀ W, RdAt W (w.heap.size + 1) ⟨[], 0⟩ → Calls Tryz.prog 58 #[.pointer (some ⟨w.heap.size + 1, 0, none⟩)] W fun e w' => e = .returned (.int .i64 0) ∧ W = w' := fun W h => end_any ⟨[], 0⟩ _ W h
      have Hend := Lib.hid hend
      clear hend
      go_wp2_with fail
      refine (Hend.out _ HR.out).mono ?_
      rintro e w6 ⟨rfl, rfl⟩
      go_wp2_with fail
      refine (Hc.out _).mono ?_
      rintro e w6 ⟨rfl, hB⟩
      have k1 := K1.out.below hB
      have HK := Lib.hid (HK.out.below hB)
      have HB := Lib.hid (HB.out.trans (hB.mono HB.out.size))
      clear hB a0 a1 a2 a3 a4 a5 a6 a7
      obtain ⟨a0, a1, a2, a3, a4, a5, a6, a7⟩ := cells8 k1
      have fb := fun i => Blk.free HK.out i
      clear k1
      have K2 := Lib.hid (show Blk w6 w.heap.size #[.int .i64 0, .bool false, .int .i64 0, .int .i64 0, .int .i64 0, .int .i64 0, .bool false, .bool false] 32 from HK.out)
      obtain ⟨b0, b1, b2, b3, b4, b5, b6, b7⟩ := cells8 K2.out
      go_wp2_with fail
      refine bodyPost_ret (results_ct (p := 2) (u := 3) (ty := 32) (by kernel_rfl) _ _ w.heap.size 32 #[.int .i64 (a : Int), .bool tr, .int .i64 (n : Int), .int .i64 (ls : Int), .int .i64 (v0 : Int), .int .i64 (v1 : Int), .bool g0, .bool g1] _ rfl (blk_put8 K2.out _ _ _ _ _ _ _ _) Tryz.underlying32 rfl (by kernel_rfl)) rfl ?_
      exact ⟨rfl, below_put8 HB.out (Nat.le_refl _) _ _ _ _ _ _ _ _⟩
    | succ g =>
      rcases (show i = 0 ∨ i = 1 by omega) with rfl | rfl
      · have k1 : Blk wr gb #[.int .i64 (a : Int), .bool tr, .int .i64 (n : Int), .int .i64 (ls : Int), .int .i64 0, .int .i64 0, .bool false, .bool false] 32 := HG.out
        obtain ⟨a0, a1, a2, a3, a4, a5, a6, a7⟩ := cells8 k1
        have fa := fun i => Blk.free k1 i
        have K1 := Lib.hid k1
        clear k1
        go_wp2_with fail
        refine (rget_any v0 1073741824 _ h0 (by decide) _ _ HR.out).mono ?_
        rintro e w6 ⟨rfl, hr, hm⟩
        have k1 := K1.out.kept hm (fun e => by have e : gb = w.heap.size + 1 := e; omega)
        have HR := Lib.hid hr
        have HK := Lib.hid (HK.out.kept hm (fun e => by have e : w.heap.size = w.heap.size + 1 := e; omega))
        have HB := Lib.hid (hm.over HB.out (by omega))
        clear hr hm a0 a1 a2 a3 a4 a5 a6 a7 fa K1
        obtain ⟨a0, a1, a2, a3, a4, a5, a6, a7⟩ := cells8 k1
        have fa := fun i => Blk.free k1 i
        have K1 := Lib.hid k1
        clear k1
        go_wp2_with fail
        refine (rget_any (bN g0) 1 _ (HbN.out _) (by decide) _ _ (Blk.far HR.out (p := ⟨gb, 4, none⟩) (by simp; omega) _)).mono ?_
        rintro e w7 ⟨rfl, hr, hm⟩
        have k1 := (K1.out.set 4 (.int .i64 (v0 : Int))).kept hm (fun e => by have e : gb = w.heap.size + 1 := e; omega)
        have HR := Lib.hid hr
        have HK := Lib.hid ((HK.out.far (p := ⟨gb, 4, none⟩) (by simp; omega) (.int .i64 (v0 : Int))).kept hm (fun e => by have e : w.heap.size = w.heap.size + 1 := e; omega))
        have HB := Lib.hid (hm.over (HB.out.setCell (p := ⟨gb, 4, none⟩) (by simp; omega) (.int .i64 (v0 : Int))) (by omega))
        clear hr hm a0 a1 a2 a3 a4 a5 a6 a7 fa K1
        have k1 := blk_eq k1 (show _ = #[.int .i64 (a : Int), .bool tr, .int .i64 (n : Int), .int .i64 (ls : Int), .int .i64 (v0 : Int), .int .i64 0, .bool false, .bool false] by simp)
        obtain ⟨a0, a1, a2, a3, a4, a5, a6, a7⟩ := cells8 k1
        have fa := fun i => Blk.free k1 i
        have K1 := Lib.hid k1
        clear k1
        go_wp2_with fail
        go_roundg g
        case measure => omega
        case rel => exact ⟨1, by omega, rfl, blk_eq (K1.out.set 6 (.bool g0)) (by simp [getC]), Blk.far HR.out (p := ⟨gb, 6, none⟩) (by simp; omega) _, HK.out.far (p := ⟨gb, 6, none⟩) (by simp; omega) _, HB.out.setCell (p := ⟨gb, 6, none⟩) (by simp; omega) _⟩
      · have k1 : Blk wr gb #[.int .i64 (a : Int), .bool tr, .int .i64 (n : Int), .int .i64 (ls : Int), .int .i64 (v0 : Int), .int .i64 0, .bool g0, .bool false] 32 := HG.out
        obtain ⟨a0, a1, a2, a3, a4, a5, a6, a7⟩ := cells8 k1
        have fa := fun i => Blk.free k1 i
        have K1 := Lib.hid k1
        clear k1
        go_wp2_with fail
        refine (rget_any v1 1073741824 _ h1 (by decide) _ _ HR.out).mono ?_
        rintro e w6 ⟨rfl, hr, hm⟩
        have k1 := K1.out.kept hm (fun e => by have e : gb = w.heap.size + 1 := e; omega)
        have HR := Lib.hid hr
        have HK := Lib.hid (HK.out.kept hm (fun e => by have e : w.heap.size = w.heap.size + 1 := e; omega))
        have HB := Lib.hid (hm.over HB.out (by omega))
        clear hr hm a0 a1 a2 a3 a4 a5 a6 a7 fa K1
        obtain ⟨a0, a1, a2, a3, a4, a5, a6, a7⟩ := cells8 k1
        have fa := fun i => Blk.free k1 i
        have K1 := Lib.hid k1
        clear k1
        go_wp2_with fail
        refine (rget_any (bN g1) 1 _ (HbN.out _) (by decide) _ _ (Blk.far HR.out (p := ⟨gb, 5, none⟩) (by simp; omega) _)).mono ?_
        rintro e w7 ⟨rfl, hr, hm⟩
        have k1 := (K1.out.set 5 (.int .i64 (v1 : Int))).kept hm (fun e => by have e : gb = w.heap.size + 1 := e; omega)
        have HR := Lib.hid hr
        have HK := Lib.hid ((HK.out.far (p := ⟨gb, 5, none⟩) (by simp; omega) (.int .i64 (v1 : Int))).kept hm (fun e => by have e : w.heap.size = w.heap.size + 1 := e; omega))
        have HB := Lib.hid (hm.over (HB.out.setCell (p := ⟨gb, 5, none⟩) (by simp; omega) (.int .i64 (v1 : Int))) (by omega))
        clear hr hm a0 a1 a2 a3 a4 a5 a6 a7 fa K1
        have k1 := blk_eq k1 (show _ = #[.int .i64 (a : Int), .bool tr, .int .i64 (n : Int), .int .i64 (ls : Int), .int .i64 (v0 : Int), .int .i64 (v1 : Int), .bool g0, .bool false] by simp)
        obtain ⟨a0, a1, a2, a3, a4, a5, a6, a7⟩ := cells8 k1
        have fa := fun i => Blk.free k1 i
        have K1 := Lib.hid k1
        clear k1
        go_wp2_with fail
        go_roundg g
        case measure => omega
        case rel => exact ⟨2, by omega, rfl, blk_eq (K1.out.set 7 (.bool g1)) (by simp [getC]), Blk.far HR.out (p := ⟨gb, 7, none⟩) (by simp; omega) _, HK.out.far (p := ⟨gb, 7, none⟩) (by simp; omega) _, HB.out.setCell (p := ⟨gb, 7, none⟩) (by simp; omega) _⟩
theorem tget_any (b : Bt) (h : b.Ok) (w : World) : Calls Tryz.prog 51 #[.string (bs b.B)] w fun e w' => e = .returned (.tuple #[.agg b.V, .int .i64 0]) ∧ Below w.heap.size w w' := by
  have hc := fun w => tcheck_any b h w
  obtain ⟨n7, l1, lM, a0, aM, oM, t0, t1⟩ := h
  obtain ⟨ac, tr, gd, n, ls, va, vo⟩ := b
  dsimp only at *
  cases ac
  · exact tget_x 0 n ls va vo tr true gd (by omega) n7 lM aM oM hc w
  · exact tget_x 1 n ls vo va tr gd true (by omega) n7 lM oM aM hc w
theorem first_any (v : Nat) (w : World) : Calls Tryz.prog 54 #[.int .i64 (v : Int)] w fun e w' => e = .returned (.agg (Bt.mk false false false 0 v v 0).V) ∧ Below w.heap.size w w' := by
  go_enter Tryz.func54, Tryz.ntmps54
  go_wp2_with fail
  have hk := Blk.new w #[.int .i64 0, .bool false, .int .i64 0, .int .i64 (v : Int), .int .i64 (v : Int), .int .i64 0, .bool true, .bool false] 32
  refine bodyPost_ret (results_cell_row (p := 2) (ty := 32) (by kernel_rfl) _ _ w.heap.size 32 #[.int .i64 0, .bool false, .int .i64 0, .int .i64 (v : Int), .int .i64 (v : Int), .int .i64 0, .bool true, .bool false] (0, 0) _ rfl hk Tryz.underlying32 rfl (by kernel_rfl)) rfl ?_
  exact ⟨rfl, (Below.refl _ _).alloc (Nat.le_refl _) _⟩
theorem take_any (m : Man) (hv : m.v ≤ 1073741824) (hn : m.n ≤ 1048576) (hd : m.d.length = 32) (rest : List UInt8) (g : Nat) (w : World) (h : RdAt w g ⟨manB m ++ rest, 0⟩) : Calls Tryz.prog 56 #[.pointer (some ⟨g, 0, none⟩)] w fun e w' => e = .returned (.agg m.cells) ∧ RdAt w' g ⟨rest, 0⟩ ∧ Mut (only g) w w' := by
  have hgl := Blk.lt h
  have hs : manB m ++ rest = numL m.v ++ (numL m.n ++ (m.d ++ rest)) := by simp [manB]
  rw [hs] at h
  have hb3 := bytes_any ⟨m.d ++ rest, 0⟩ 32 g
  have hbv : (Rdr.mk (m.d ++ rest) 0).bytes 32 = (m.d, ⟨rest, 0⟩) := by have := bytes_app m.d rest; rw [hd] at this; exact this
  rw [hbv] at hb3
  have Hb3 := Lib.hid hb3
  have H0 := Lib.hid h
  clear hb3 hbv hs h
  show Calls Tryz.prog 56 #[.pointer (some ⟨g, 0, none⟩)] w fun e w' => e = .returned (.agg #[.int .i64 (m.v : Int), .int .i64 (m.n : Int), .string (bs m.d)]) ∧ _
  go_enter Tryz.func56, Tryz.ntmps56
  go_wp2_with fail
  have hal : Below w.heap.size w (w.alloc (.cells #[.int .i64 0, .int .i64 0, .string { data := #[] }] 34)) := (Below.refl _ _).alloc (Nat.le_refl _) _
  have HK := Lib.hid (Blk.new w #[.int .i64 0, .int .i64 0, .string { data := #[] }] 34)
  refine (rget_any m.v 1073741824 _ hv (by decide) g _ (Blk.below H0.out hal)).mono ?_
  rintro e w1 ⟨rfl, hr, hm⟩
  have HR := Lib.hid hr
  have HK := Lib.hid (HK.out.kept hm (fun e => by have e : w.heap.size = g := e; omega))
  have HM := Lib.hid ((Mut.of_below (S := only g) hal).trans hm)
  clear hr hm hal
  go_wp2_with fail
  refine (rget_any m.n 1048576 _ hn (by decide) g _ HR.out).mono ?_
  rintro e w2 ⟨rfl, hr, hm⟩
  have hal : Below w2.heap.size w2 (w2.alloc (.cells #[.int .i64 (m.v : Int), .int .i64 (m.n : Int), .string { data := #[] }] 34)) := (Below.refl _ _).alloc (Nat.le_refl _) _
  have HR := Lib.hid (Blk.below hr hal)
  have HK := Lib.hid ((HK.out.kept hm (fun e => by have e : w.heap.size = g := e; omega)).below hal)
  have HM := Lib.hid ((HM.out.trans hm).trans (Mut.of_below hal))
  have hwl : w.heap.size < w2.heap.size := Nat.lt_of_lt_of_le (Blk.lt ‹Blk w1 _ _ _›) hm.size
  have HG := Lib.hid (Blk.new w2 #[.int .i64 (m.v : Int), .int .i64 (m.n : Int), .string { data := #[] }] 34)
  clear hr hm hal
  go_wp2_with fail
  obtain ⟨gb, hgb⟩ : ∃ gb, gb = w2.heap.size := ⟨_, rfl⟩
  rw [← hgb] at HG hwl ⊢
  have hgb2 : g < gb := Nat.lt_trans hgl hwl
  obtain ⟨w3, hw3⟩ : ∃ w3, w3 = w2.alloc (.cells #[.int .i64 (m.v : Int), .int .i64 (m.n : Int), .string { data := #[] }] 34) := ⟨_, rfl⟩
  rw [← hw3] at HG HR HK HM ⊢
  clear hw3 hgb
  refine (Hb3.out w3 HR.out (by omega)).mono ?_
  rintro e w4 ⟨rfl, hr, hm⟩
  have k1 := HG.out.kept hm (fun e => by have e : gb = g := e; omega)
  have k2 := HK.out.kept hm (fun e => by have e : w.heap.size = g := e; omega)
  have c0 : w4.cell? ⟨gb, 0, none⟩ = some (.int .i64 (m.v : Int)) := k1.cell 0
  have c1 : w4.cell? ⟨gb, 1, none⟩ = some (.int .i64 (m.n : Int)) := k1.cell 1
  have c2 : w4.cell? ⟨gb, 2, none⟩ = some (.string { data := #[] }) := k1.cell 2
  have d0 : w4.cell? ⟨w.heap.size, 0, none⟩ = some (.int .i64 0) := k2.cell 0
  have d1 : w4.cell? ⟨w.heap.size, 1, none⟩ = some (.int .i64 0) := k2.cell 1
  have d2 : w4.cell? ⟨w.heap.size, 2, none⟩ = some (.string { data := #[] }) := k2.cell 2
  have f1 := fun i => Blk.free k1 i
  have f2 := fun i => Blk.free k2 i
  have HR := Lib.hid hr
  have HM := Lib.hid (HM.out.trans hm)
  have K2 := Lib.hid k2
  clear hr hm k1 k2
  go_wp2_with fail
  have hne : w.heap.size ≠ gb := by omega
  have k3 := (((K2.out.far (p := ⟨gb, 2, none⟩) hne (.string (bs m.d))).set 0 (.int .i64 (m.v : Int))).set 1 (.int .i64 (m.n : Int))).set 2 (.string (bs m.d))
  have k4 : Blk _ w.heap.size #[.int .i64 (m.v : Int), .int .i64 (m.n : Int), .string (bs m.d)] 34 := blk_eq k3 (by simp)
  refine bodyPost_ret (results_cell_row (p := 2) (ty := 34) (by kernel_rfl) _ _ w.heap.size 34 #[.int .i64 (m.v : Int), .int .i64 (m.n : Int), .string (bs m.d)] (0, 0) _ rfl k4 Tryz.underlying34 rfl (by kernel_rfl)) rfl ?_
  refine ⟨rfl, ?_, ?_⟩
  · exact (((Blk.far HR.out (p := ⟨gb, 2, none⟩) (by simp; omega) _).far (p := ⟨w.heap.size, 0, none⟩) (by simp; omega) _).far (p := ⟨w.heap.size, 1, none⟩) (by simp; omega) _).far (p := ⟨w.heap.size, 2, none⟩) (by simp; omega) _
  · exact (((HM.out.setNew (p := ⟨gb, 2, none⟩) (by simp; omega) _).setNew (p := ⟨w.heap.size, 0, none⟩) (Nat.le_refl _) _).setNew (p := ⟨w.heap.size, 1, none⟩) (Nat.le_refl _) _).setNew (p := ⟨w.heap.size, 2, none⟩) (Nat.le_refl _) _
end Go.Proofs.YticnmogeknlmeaaGreatDoor.B
