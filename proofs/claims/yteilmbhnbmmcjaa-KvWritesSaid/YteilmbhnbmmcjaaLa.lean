/- Helper: a note's bytes, walked. No condition. -/
import Derived.Test.YteilmbhnbmmcjaaMm
import Derived.Test.YteilmbhnbmmcjaaCd
import Derived.Test.YteilmbhnbmmcjaaLater
namespace Go.Proofs.Yteilmbhnbmmcjaa.B
open Go.RowKit Go.Proofs.YteilmbhnbmmcjaaW.PrintWords Go.Proofs.Yteilmbhnbmmcjaa.Later
set_option maxRecDepth 100000
set_option maxHeartbeats 400000
/-- A note. -/
structure Nt where
  n : Nat
  k : Nat
  t : List UInt8
def Nt.val (x : Nt) : Value := .agg #[.int .i64 x.n, .int .i64 x.k, .string (bs x.t)]
def Nt.ok (x : Nt) : Prop := x.n ≤ 1073741824 ∧ x.k ≤ 255 ∧ x.t.length ≤ 40
def Nt.bytes (x : Nt) : List UInt8 := numL x.n ++ numL x.k ++ textL x.t
theorem Below.cellOld {w w' : World} (h : Below w.heap.size w w') {a : Addr} {v : Value} (hc : w.cell? a = some v) : w'.cell? a = some v := by
  rw [h.cell (World.block_lt_of_cell? w a hc)]; exact hc
theorem lput_any (x : Nt) (hx : x.ok) (w : World) : Calls Try.prog 49 #[x.val] w fun e w' => e = .returned (.string (bs x.bytes)) ∧ Below w.heap.size w w' := by
  obtain ⟨h1, h2, h3⟩ := hx
  have hB0 : Below w.heap.size w (w.alloc (.cells #[.int .i64 x.n, .int .i64 x.k, .string (bs x.t)] 45)) := (Below.refl _ _).alloc (Nat.le_refl _) _
  have hn1 := num_any x.n (by omega)
  have hn2 := num_any x.k (by omega)
  have hn3 := ctext_any x.t (by omega)
  obtain ⟨w1, hw1⟩ : ∃ w1, w1 = w.alloc (.cells #[.int .i64 x.n, .int .i64 x.k, .string (bs x.t)] 45) := ⟨_, rfl⟩
  rw [← hw1] at hB0
  have hb1 : Blk w1 w.heap.size #[.int .i64 x.n, .int .i64 x.k, .string (bs x.t)] 45 := by rw [hw1]; exact Blk.new w _ 45
  have c0 : w1.cell? ⟨w.heap.size, 0, none⟩ = some (.int .i64 x.n) := hb1.cell 0
  have c1 : w1.cell? ⟨w.heap.size, 1, none⟩ = some (.int .i64 x.k) := hb1.cell 1
  have c2 : w1.cell? ⟨w.heap.size, 2, none⟩ = some (.string (bs x.t)) := hb1.cell 2
  obtain ⟨A, hA⟩ : ∃ A, A = numL x.n := ⟨_, rfl⟩
  obtain ⟨B, hB⟩ : ∃ A, A = numL x.k := ⟨_, rfl⟩
  obtain ⟨C, hC⟩ : ∃ A, A = textL x.t := ⟨_, rfl⟩
  have s1 := bs_size (numL x.n)
  have s2 := bs_size (numL x.k)
  have s3 := bs_size (textL x.t)
  have l1 := numL_len (n := x.n) (by omega)
  have l2 := numL_len (n := x.k) (by omega)
  have l3 := numL_len (n := x.t.length) (by omega)
  have l4 : (textL x.t).length = (numL x.t.length).length + x.t.length := by simp [textL]
  have l5 : (textL x.t).length ≤ 49 := by omega
  clear l3 l4
  have hbytes : x.bytes = A ++ B ++ C := by rw [hA, hB, hC]; simp [Nt.bytes]
  rw [hbytes]
  rw [← hA] at hn1 s1 l1
  rw [← hB] at hn2 s2 l2
  rw [← hC] at hn3 s3 l5
  clear hA hB hC hbytes
  have Hw1 := Lib.hid hw1
  have HB0 := Lib.hid hB0
  clear hw1 hB0 hb1
  show Calls Try.prog 49 #[.agg #[.int .i64 x.n, .int .i64 x.k, .string (bs x.t)]] w _
  go_enter Try.func49, Try.ntmps49
  go_upto_region 1 with fail
  rw [← Hw1.out]
  have k0 := fun n => later_cell c0 n
  have k1 := fun n => later_cell c1 n
  have k2 := fun n => later_cell c2 n
  refine wp_region_later (by kernel_rfl) (by kernel_rfl) ?_
  have m1 := calls_later (P := Try.prog) (f := 38) (w := w1) (v := .string (bs A)) (fun w2 _ => hn1 w2)
  have m2 := calls_later (P := Try.prog) (f := 38) (w := w1) (v := .string (bs B)) (fun w2 _ => hn2 w2)
  have m3 := calls_later (P := Try.prog) (f := 76) (w := w1) (v := .string (bs C)) (fun w2 _ => hn3 w2)
  repeat go_big_quiet_step (fail)
  go_big_quiet_step (exact m1 _)
  repeat go_big_quiet_step (fail)
  go_big_quiet_step (exact m2 _)
  repeat go_big_quiet_step (fail)
  go_big_quiet_step (exact m3 _)
  repeat go_big_quiet_step (fail)
  refine wpQuiet_nil ?_
  intro w2 hw2
  have hb2 := later_of hw2
  clear hw2
  go_wp2
  go_ret
  refine ⟨?_, HB0.out.trans (hb2.mono HB0.out.size)⟩
  simp [bs_app]
end Go.Proofs.Yteilmbhnbmmcjaa.B
