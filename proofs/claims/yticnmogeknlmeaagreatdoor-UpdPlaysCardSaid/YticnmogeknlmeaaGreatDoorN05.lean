/- Helper: the digest's mixing, walked: the words of a block. the digest, plainly. No condition. -/
import Derived.Test.YticnmogeknlmeaaGreatDoorN04
import Derived.IntWalk
import Derived.Laws.CopyOwn
namespace Go.Proofs.YticnmogeknlmeaaGreatDoor.B
open Go.RowKit Go.Proofs.YticnmogeknlmeaaGreatDoorW.PrintWords Go.Proofs.YticnmogeknlmeaaGreatDoor.Later
set_option maxRecDepth 100000
set_option maxHeartbeats 1600000
structure MixA (w : World) (s : St) (ws : List W32) (g0 g1 g2 kb : Nat) (wr : World) : Prop where
  a : Blk wr g0 s.cells 157
  b : Blk wr g1 (arrU 8 []) 157
  c : Blk wr g2 (arrU 64 ws) 158
  d : Blk wr kb (arrU 64 kL) 158
  B : Below w.heap.size w wr
def MixRel (w : World) (s : St) (b : List UInt8) (g0 g1 g2 kb : Nat) (x : Value) (wr : World) : Prop := ∃ k : Nat, k ≤ 64 ∧ x = .int .i64 (k : Int) ∧ MixA w s (sched b k) g0 g1 g2 kb wr
theorem at_world {P : Program} {Q : Exit → Act → World → Prop} {c : Code} {a : Act} {W : World} (X : World) (hX : W = X) (h : ∀ w1, w1 = X → Code.wp P c Q a w1) : Code.wp P c Q a W := h W hX
theorem MixA.start (w : World) (s : St) (kb : Nat) (hk : Blk w kb (arrU 64 kL) 158) {w1 : World} (h : w1 = ((w.alloc (.cells s.cells 157)).alloc (.cells (arrU 8 []) 157)).alloc (.cells (arrU 64 []) 158)) : MixA w s [] w.heap.size (w.heap.size + 1) (w.heap.size + 2) kb w1 := by
  subst h
  have q0 := Blk.new w s.cells 157
  have q1 := Blk.new (w.alloc (.cells s.cells 157)) (arrU 8 []) 157
  have q2 := Blk.new ((w.alloc (.cells s.cells 157)).alloc (.cells (arrU 8 []) 157)) (arrU 64 []) 158
  rw [show (w.alloc (.cells s.cells 157)).heap.size = w.heap.size + 1 by simp] at q1
  rw [show ((w.alloc (.cells s.cells 157)).alloc (.cells (arrU 8 []) 157)).heap.size = w.heap.size + 2 by simp] at q2
  have B : Below w.heap.size w (((w.alloc (.cells s.cells 157)).alloc (.cells (arrU 8 []) 157)).alloc (.cells (arrU 64 []) 158)) := (((Below.refl w.heap.size w).alloc (Nat.le_refl _) _).alloc (by simp) _).alloc (by simp; omega) _
  exact ⟨(q0.below ((Below.refl _ _).alloc (Nat.le_refl _) _)).below ((Below.refl _ _).alloc (Nat.le_refl _) _), q1.below ((Below.refl _ _).alloc (Nat.le_refl _) _), q2, hk.below B, B⟩
theorem byte32 (p : UInt8) : (p.toNat : Int) % 4294967296 = ((BitVec.ofNat 32 p.toNat).toNat : Int) := by
  have := p.toNat_lt
  rw [BitVec.toNat_ofNat, Nat.mod_eq_of_lt (by omega)]
  omega
theorem shl24 (a : W32) : ((a.toNat : Int) * (16777216 : Int) % (4294967296 : Int)) = ((a <<< 24).toNat : Int) := shlN32 a 24
theorem shl16 (a : W32) : ((a.toNat : Int) * (65536 : Int) % (4294967296 : Int)) = ((a <<< 16).toNat : Int) := shlN32 a 16
theorem shl8 (a : W32) : ((a.toNat : Int) * (256 : Int) % (4294967296 : Int)) = ((a <<< 8).toNat : Int) := shlN32 a 8
theorem bs_getD (b : List UInt8) (j : Nat) (h : j < (bs b).size) : (bs b)[j] = b.getD j 0 := by
  rw [List.getD_eq_getElem?_getD, List.getElem?_eq_getElem (by rw [bs_size] at h; exact h)]
  simp [bs, ByteArray.getElem_eq_getElem_data]
theorem word_val (b : List UInt8) (k : Nat) (hb : b.length = 64) (h : k < 16) : Go.bits BinOp.or IntKind.u32 (Go.bits BinOp.or IntKind.u32 (Go.bits BinOp.or IntKind.u32
    (((bs b)[4 * k]'(by rw [bs_size]; omega)).toNat % 4294967296 * 16777216 % 4294967296 : Int) (((bs b)[4 * k + 1]'(by rw [bs_size]; omega)).toNat % 4294967296 * 65536 % 4294967296 : Int))
    (((bs b)[4 * k + 2]'(by rw [bs_size]; omega)).toNat % 4294967296 * 256 % 4294967296 : Int)) (((bs b)[4 * k + 3]'(by rw [bs_size]; omega)).toNat % 4294967296 : Int) = ((word b k).toNat : Int) := by
  rw [byte32, byte32, byte32, byte32, shl24, shl16, shl8, or32, or32, or32, bs_getD, bs_getD, bs_getD, bs_getD]
  rfl
theorem MixA.drewn {w : World} {s : St} {ws : List W32} {g0 g1 g2 kb : Nat} {wr w2 : World} (h : MixA w s ws g0 g1 g2 kb wr) (hw : ∃ m : Nat, w2 = wr.drewN m) : MixA w s ws g0 g1 g2 kb w2 := by
  obtain ⟨m, rfl⟩ := hw
  exact ⟨h.a, h.b, h.c, h.d, below_drewN h.B m⟩
theorem MixA.step {w : World} {s : St} {ws ws' : List W32} {g0 g1 g2 kb k : Nat} {x : W32} {wr : World} (h : MixA w s ws g0 g1 g2 kb wr) (hg : g0 = w.heap.size ∧ g1 = w.heap.size + 1 ∧ g2 = w.heap.size + 2 ∧ kb < w.heap.size) (hws : ws' = ws ++ [x]) (hk : k < 64) (hl : ws.length = k := by exact sched_len _ _) : MixA w s ws' g0 g1 g2 kb (wr.setCell ⟨g2, k, none⟩ (.int .u32 (x.toNat : Int))) := by
  obtain ⟨e0, e1, e2, e3⟩ := hg
  have hc := h.c.set k (u32 x)
  rw [arrU_set (by omega) x k hl.symm, ← hws] at hc
  exact ⟨h.a.far (by simp; omega) _, h.b.far (by simp; omega) _, hc, h.d.far (by simp; omega) _, h.B.setCell (by simp; omega) _⟩
theorem arrU_get {n : Nat} {xs : List W32} (i : Nat) (h : i < xs.length) : (arrU n xs)[i]? = some (.int .u32 ((at0 xs i).toNat : Int)) := by
  simp only [arrU, List.getElem?_toArray]
  rw [List.getElem?_append_left (by simpa using h), List.getElem?_map, List.getElem?_eq_getElem h]
  simp [at0, List.getD_eq_getElem?_getD, List.getElem?_eq_getElem h, u32]
theorem MixA.cellAt {w : World} {s : St} {ws : List W32} {g0 g1 g2 kb : Nat} {wr : World} (h : MixA w s ws g0 g1 g2 kb wr) (i : Nat) (hi : i < ws.length) : wr.cell? ⟨g2, i, none⟩ = some (.int .u32 ((at0 ws i).toNat : Int)) := (h.c.cell i).trans (arrU_get i hi)
theorem shr3 (a : W32) : ((a.toNat : Int) / (8 : Int)) = ((a >>> 3).toNat : Int) := shrN32 a 3
theorem shr10 (a : W32) : ((a.toNat : Int) / (1024 : Int)) = ((a >>> 10).toNat : Int) := shrN32 a 10
theorem sum2 (a b : W32) : ((a.toNat : Int) + (b.toNat : Int)) % (4294967296 : Int) = ((a + b).toNat : Int) := by
  simp only [BitVec.toNat_add]
  omega
theorem sum4 (a b c d : W32) : ((a.toNat : Int) + (b.toNat : Int) + (c.toNat : Int) + (d.toNat : Int)) % (4294967296 : Int) = ((a + b + c + d).toNat : Int) := by
  simp only [BitVec.toNat_add]
  omega
theorem sum5 (a b c d e : W32) : ((a.toNat : Int) + (b.toNat : Int) + (c.toNat : Int) + (d.toNat : Int) + (e.toNat : Int)) % (4294967296 : Int) = ((a + b + c + d + e).toNat : Int) := by
  simp only [BitVec.toNat_add]
  omega
structure MixB (w : World) (s t : St) (ws : List W32) (g0 g1 g2 g3 kb : Nat) (wr : World) : Prop where
  A : MixA w s ws g0 g1 g2 kb wr
  v : Blk wr g3 t.cells 157
  h3 : w.heap.size + 2 < g3
theorem MixA.start2 {w : World} {s : St} {ws : List W32} {g0 g1 g2 kb : Nat} {wr : World} (h : MixA w s ws g0 g1 g2 kb wr) (hg : g0 = w.heap.size ∧ g1 = w.heap.size + 1 ∧ g2 = w.heap.size + 2 ∧ kb < w.heap.size) : MixB w s s ws g0 g1 g2 wr.heap.size kb (wr.alloc (.cells s.cells 157)) := by
  have hB : Below wr.heap.size wr (wr.alloc (.cells s.cells 157)) := (Below.refl _ _).alloc (Nat.le_refl _) _
  have := h.c.lt
  exact ⟨⟨h.a.below hB, h.b.below hB, h.c.below hB, h.d.below hB, h.B.alloc h.B.size _⟩, Blk.new wr s.cells 157, by omega⟩
theorem MixB.c0 {w : World} {s t : St} {ws : List W32} {g0 g1 g2 g3 kb : Nat} {wr : World} (h : MixB w s t ws g0 g1 g2 g3 kb wr) : wr.cell? ⟨g3, 0, none⟩ = some (.int .u32 (t.a.toNat : Int)) := h.v.cell 0
theorem MixB.c1 {w : World} {s t : St} {ws : List W32} {g0 g1 g2 g3 kb : Nat} {wr : World} (h : MixB w s t ws g0 g1 g2 g3 kb wr) : wr.cell? ⟨g3, 1, none⟩ = some (.int .u32 (t.b.toNat : Int)) := h.v.cell 1
theorem MixB.c2 {w : World} {s t : St} {ws : List W32} {g0 g1 g2 g3 kb : Nat} {wr : World} (h : MixB w s t ws g0 g1 g2 g3 kb wr) : wr.cell? ⟨g3, 2, none⟩ = some (.int .u32 (t.c.toNat : Int)) := h.v.cell 2
theorem MixB.c3 {w : World} {s t : St} {ws : List W32} {g0 g1 g2 g3 kb : Nat} {wr : World} (h : MixB w s t ws g0 g1 g2 g3 kb wr) : wr.cell? ⟨g3, 3, none⟩ = some (.int .u32 (t.d.toNat : Int)) := h.v.cell 3
theorem MixB.c4 {w : World} {s t : St} {ws : List W32} {g0 g1 g2 g3 kb : Nat} {wr : World} (h : MixB w s t ws g0 g1 g2 g3 kb wr) : wr.cell? ⟨g3, 4, none⟩ = some (.int .u32 (t.e.toNat : Int)) := h.v.cell 4
theorem MixB.c5 {w : World} {s t : St} {ws : List W32} {g0 g1 g2 g3 kb : Nat} {wr : World} (h : MixB w s t ws g0 g1 g2 g3 kb wr) : wr.cell? ⟨g3, 5, none⟩ = some (.int .u32 (t.f.toNat : Int)) := h.v.cell 5
theorem MixB.c6 {w : World} {s t : St} {ws : List W32} {g0 g1 g2 g3 kb : Nat} {wr : World} (h : MixB w s t ws g0 g1 g2 g3 kb wr) : wr.cell? ⟨g3, 6, none⟩ = some (.int .u32 (t.g.toNat : Int)) := h.v.cell 6
theorem MixB.c7 {w : World} {s t : St} {ws : List W32} {g0 g1 g2 g3 kb : Nat} {wr : World} (h : MixB w s t ws g0 g1 g2 g3 kb wr) : wr.cell? ⟨g3, 7, none⟩ = some (.int .u32 (t.h.toNat : Int)) := h.v.cell 7
theorem kL_len : kL.length = 64 := by simp [kL, primes_len]
theorem MixB.cellK {w : World} {s t : St} {ws : List W32} {g0 g1 g2 g3 kb : Nat} {wr : World} (h : MixB w s t ws g0 g1 g2 g3 kb wr) (i : Nat) (hi : i < 64) : wr.cell? ⟨kb, i, none⟩ = some (.int .u32 ((at0 kL i).toNat : Int)) := (h.A.d.cell i).trans (arrU_get i (by rw [kL_len]; exact hi))
theorem MixB.drewn {w : World} {s t : St} {ws : List W32} {g0 g1 g2 g3 kb : Nat} {wr w2 : World} (h : MixB w s t ws g0 g1 g2 g3 kb wr) (hw : ∃ m : Nat, w2 = wr.drewN m) : MixB w s t ws g0 g1 g2 g3 kb w2 := by
  refine ⟨h.A.drewn hw, ?_, h.h3⟩
  obtain ⟨m, rfl⟩ := hw
  exact h.v
def MixRel2 (w : World) (s : St) (ws : List W32) (g0 g1 g2 g3 kb : Nat) (x : Value) (wr : World) : Prop := ∃ k : Nat, k ≤ 64 ∧ x = .int .i64 (k : Int) ∧ MixB w s (rnds s ws k) ws g0 g1 g2 g3 kb wr
theorem not32 (a : W32) : Go.bits BinOp.xor IntKind.u32 IntKind.u32.max (a.toNat : Int) = ((~~~a).toNat : Int) := by
  have h := xor32 (BitVec.allOnes 32) a
  rw [BitVec.allOnes_xor] at h
  exact h
theorem one_val (t : St) (k w : W32) : (((t.h.toNat : Int) + Go.bits BinOp.xor IntKind.u32 (Go.bits BinOp.xor IntKind.u32 ((rr t.e 6).toNat : Int) ((rr t.e 11).toNat : Int)) ((rr t.e 25).toNat : Int) + Go.bits BinOp.xor IntKind.u32 (Go.bits BinOp.and IntKind.u32 (t.e.toNat : Int) (t.f.toNat : Int)) (Go.bits BinOp.and IntKind.u32 (Go.bits BinOp.xor IntKind.u32 IntKind.u32.max (t.e.toNat : Int)) (t.g.toNat : Int)) + (k.toNat : Int) + (w.toNat : Int)) % (4294967296 : Int)) = ((oneOf t k w).toNat : Int) := by
  rw [not32, and32, and32, xor32, xor32, xor32, sum5]
  rfl
theorem two_val (t : St) : (Go.bits BinOp.xor IntKind.u32 (Go.bits BinOp.xor IntKind.u32 ((rr t.a 2).toNat : Int) ((rr t.a 13).toNat : Int)) ((rr t.a 22).toNat : Int) + Go.bits BinOp.xor IntKind.u32 (Go.bits BinOp.xor IntKind.u32 (Go.bits BinOp.and IntKind.u32 (t.a.toNat : Int) (t.b.toNat : Int)) (Go.bits BinOp.and IntKind.u32 (t.a.toNat : Int) (t.c.toNat : Int))) (Go.bits BinOp.and IntKind.u32 (t.b.toNat : Int) (t.c.toNat : Int))) % (4294967296 : Int) = ((twoOf t).toNat : Int) := by
  rw [and32, and32, and32, xor32, xor32, xor32, xor32, sum2]
  rfl
theorem St.one {t : St} (v : Value) (h : v ∈ t.cells.toList) : v.oneCell' = true := by
  simp only [St.cells, List.mem_cons, List.not_mem_nil, or_false] at h
  rcases h with rfl | rfl | rfl | rfl | rfl | rfl | rfl | rfl <;> rfl
theorem Blk.head7 {w : World} {g : Nat} {t : St} (h : Blk w g t.cells 157) (j : Nat) (v : Value) (hj : (t.cells.toList.take 7)[j]? = some v) : w.cell? ((⟨g, 0, none⟩ : Addr).add j) = some v := by
  rw [add_plain, h.cell j]
  rw [List.getElem?_take] at hj
  split at hj
  · simpa using hj
  · cases hj
def shifted (t : St) : Array Value := #[u32 t.a, u32 t.a, u32 t.b, u32 t.c, u32 t.d, u32 t.e, u32 t.f, u32 t.g]
theorem at_list {P : Program} {ops : Array Oper} {Q : Exit → Act → World → Prop} {l : List Oper} {a : Act} {W : World} (X : World) (hX : W = X) (h : wpList P ops Q l a X) : wpList P ops Q l a W := hX ▸ h
theorem MixB.copied {w : World} {s t : St} {ws : List W32} {g0 g1 g2 g3 kb : Nat} {w6 w7 : World} (h : MixB w s t ws g0 g1 g2 g3 kb w6) (hg : g0 = w.heap.size ∧ g1 = w.heap.size + 1 ∧ g2 = w.heap.size + 2 ∧ kb < w.heap.size) (hw : w7 = w6.drew.setRow g3 (shifted t)) : (MixA w s ws g0 g1 g2 kb w7 ∧ w.heap.size + 2 < g3) ∧ Blk w7 g3 (shifted t) 157 := by
  subst hw
  obtain ⟨e0, e1, e2, e3⟩ := hg
  have h3 := h.h3
  exact ⟨⟨⟨Blk.rowFar (w := w6.drew) h.A.a (by omega) _, Blk.rowFar (w := w6.drew) h.A.b (by omega) _, Blk.rowFar (w := w6.drew) h.A.c (by omega) _, Blk.rowFar (w := w6.drew) h.A.d (by omega) _, below_setRow (below_drewN h.A.B 1) (by omega) _⟩, h3⟩, Blk.row (w := w6.drew) h.v _⟩
theorem MixA.stepped {w : World} {s t : St} {ws : List W32} {g0 g1 g2 g3 kb : Nat} {on tw : W32} {w7 : World} (h : MixA w s ws g0 g1 g2 kb w7 ∧ w.heap.size + 2 < g3) (hv : Blk w7 g3 (shifted t) 157) (hg : g0 = w.heap.size ∧ g1 = w.heap.size + 1 ∧ g2 = w.heap.size + 2 ∧ kb < w.heap.size) :
    MixB w s ⟨on + tw, t.a, t.b, t.c, t.d + on, t.e, t.f, t.g⟩ ws g0 g1 g2 g3 kb ((w7.setCell ⟨g3, 4, none⟩ (.int .u32 ((t.d + on).toNat : Int))).setCell ⟨g3, 0, none⟩ (.int .u32 ((on + tw).toNat : Int))) := by
  obtain ⟨e0, e1, e2, e3⟩ := hg
  obtain ⟨h, h3⟩ := h
  have hv2 := (hv.set 4 (u32 (t.d + on))).set 0 (u32 (on + tw))
  exact ⟨⟨(h.a.far (by simp; omega) _).far (by simp; omega) _, (h.b.far (by simp; omega) _).far (by simp; omega) _, (h.c.far (by simp; omega) _).far (by simp; omega) _, (h.d.far (by simp; omega) _).far (by simp; omega) _, (h.B.setCell (by simp; omega) _).setCell (by simp; omega) _⟩, hv2, h3⟩
def stL (s : St) : List W32 := [s.a, s.b, s.c, s.d, s.e, s.f, s.g, s.h]
def part (s t : St) : Nat → List W32
  | 0 => stL s
  | i + 1 => (part s t i).set i (at0 (stL s) i + at0 (stL t) i)
theorem part_len (s t : St) : ∀ i, (part s t i).length = 8
  | 0 => rfl
  | i + 1 => by rw [part, List.length_set, part_len s t i]
theorem part_at (s t : St) : ∀ i j, i ≤ j → at0 (part s t i) j = at0 (stL s) j
  | 0, _, _ => rfl
  | i + 1, j, h => by
    rw [part, at0, List.getD_eq_getElem?_getD, List.getElem?_set_ne (by omega), ← List.getD_eq_getElem?_getD]
    exact part_at s t i j (by omega)
theorem part_8 (s t : St) : part s t 8 = stL (s.add t) := rfl
theorem arrU_upd {n : Nat} {xs : List W32} (i : Nat) (h : i < xs.length) (x : W32) : (arrU n xs).setIfInBounds i (.int .u32 (x.toNat : Int)) = arrU n (xs.set i x) := by
  simp only [arrU, List.setIfInBounds_toArray, List.length_set]
  rw [List.set_append_left _ _ (by simpa using h), List.map_set]
  rfl
theorem cells_arr (s : St) : s.cells = arrU 8 (stL s) := rfl
structure MixC (w : World) (l : List W32) (s t : St) (g0 g1 g3 : Nat) (wr : World) (i : Nat) : Prop where
  a : Blk wr g0 (arrU 8 (part s t i)) 157
  b : Blk wr g1 (arrU 8 []) 157
  v : Blk wr g3 (arrU 8 (stL t)) 157
  n1 : g0 ≠ g1
  n3 : g0 ≠ g3
  l0 : w.heap.size ≤ g0
  l1 : w.heap.size ≤ g1
  B : Below w.heap.size w wr
def MixRel3 (w : World) (s t : St) (g0 g1 g3 : Nat) (x : Value) (wr : World) : Prop := ∃ i : Nat, i ≤ 8 ∧ x = .int .i64 (i : Int) ∧ MixC w [] s t g0 g1 g3 wr i
theorem MixB.start3 {w : World} {s t : St} {ws : List W32} {g0 g1 g2 g3 kb : Nat} {wr : World} (h : MixB w s t ws g0 g1 g2 g3 kb wr) (hg : g0 = w.heap.size ∧ g1 = w.heap.size + 1 ∧ g2 = w.heap.size + 2 ∧ kb < w.heap.size) : MixC w [] s t g0 g1 g3 wr 0 := by
  have h3 := h.h3
  exact ⟨by rw [part, ← cells_arr]; exact h.A.a, h.A.b, by rw [← cells_arr]; exact h.v, by omega, by omega, by omega, by omega, h.A.B⟩
theorem MixC.s0 {w : World} {l : List W32} {s t : St} {g0 g1 g3 : Nat} {wr : World} {i : Nat} (h : MixC w l s t g0 g1 g3 wr i) (j : Nat) (hj : j < 8) (hij : i ≤ j := by exact Nat.le_refl _) : wr.cell? ⟨g0, j, none⟩ = some (.int .u32 ((at0 (stL s) j).toNat : Int)) := by
  rw [← part_at s t i j hij]
  exact (h.a.cell j).trans (arrU_get j (by rw [part_len]; exact hj))
theorem MixC.v0 {w : World} {l : List W32} {s t : St} {g0 g1 g3 : Nat} {wr : World} {i : Nat} (h : MixC w l s t g0 g1 g3 wr i) (j : Nat) (hj : j < 8) : wr.cell? ⟨g3, j, none⟩ = some (.int .u32 ((at0 (stL t) j).toNat : Int)) := (h.v.cell j).trans (arrU_get j hj)
theorem MixC.drewn {w : World} {l : List W32} {s t : St} {g0 g1 g3 : Nat} {wr w2 : World} {i : Nat} (h : MixC w l s t g0 g1 g3 wr i) (hw : ∃ m : Nat, w2 = wr.drewN m) : MixC w l s t g0 g1 g3 w2 i := by
  obtain ⟨m, rfl⟩ := hw
  exact ⟨h.a, h.b, h.v, h.n1, h.n3, h.l0, h.l1, below_drewN h.B m⟩
theorem MixC.step {w : World} {l : List W32} {s t : St} {g0 g1 g3 : Nat} {wr : World} {i : Nat} (h : MixC w l s t g0 g1 g3 wr i) (hi : i < 8) : MixC w l s t g0 g1 g3 (wr.setCell ⟨g0, i, none⟩ (.int .u32 ((at0 (stL s) i + at0 (stL t) i).toNat : Int))) (i + 1) := by
  have ha := h.a.set i (.int .u32 ((at0 (stL s) i + at0 (stL t) i).toNat : Int))
  rw [arrU_upd i (by rw [part_len]; exact hi)] at ha
  exact ⟨ha, h.b.far (fun e => h.n1 e.symm) _, h.v.far (fun e => h.n3 e.symm) _, h.n1, h.n3, h.l0, h.l1, h.B.setCell h.l0 _⟩
theorem mix_any (s : St) (b : List UInt8) (hb : b.length = 64) (kb : Nat) (w : World) (hk : Blk w kb (arrU 64 kL) 158) : Calls Tryz.prog 90 #[.agg s.cells, .string (bs b), .pointer (some ⟨kb, 0, none⟩)] w fun e w' => e = .returned (.agg (mix s b).cells) ∧ Below w.heap.size w w' := by
  have hsz : (bs b).size = 64 := by rw [bs_size, hb]
  unfold St.cells u32
  have Hk := Lib.hid hk
  clear hk
  go_enter Tryz.func90, Tryz.ntmps90
  go_wp2_with fail
  refine at_world (((w.alloc (.cells s.cells 157)).alloc (.cells (arrU 8 []) 157)).alloc (.cells (arrU 64 []) 158)) rfl (fun w1 hw1 => ?_)
  have H0 := Lib.hid (MixA.start w s kb Hk.out hw1)
  rw [show w.heap.size + 1 + 1 = w.heap.size + 2 from rfl]
  obtain ⟨g2, hg2⟩ : ∃ g, g = w.heap.size + 2 := ⟨_, rfl⟩
  obtain ⟨g1, hg1⟩ : ∃ g, g = w.heap.size + 1 := ⟨_, rfl⟩
  obtain ⟨g0, hg0⟩ : ∃ g, g = w.heap.size := ⟨_, rfl⟩
  have H1 := Lib.hid (show MixA w s [] g0 g1 g2 kb w1 by rw [hg0, hg1, hg2]; exact H0.out)
  have Hg := Lib.hid (show g0 = w.heap.size ∧ g1 = w.heap.size + 1 ∧ g2 = w.heap.size + 2 ∧ kb < w.heap.size from ⟨hg0, hg1, hg2, Hk.out.lt⟩)
  rw [← hg2, ← hg1, ← hg0]
  clear hw1 H0 Hk hg0 hg1 hg2
  go_loopw [18] (fun x wr => MixRel w s b g0 g1 g2 kb x wr) (fun x _ => 64 - (intOf x).toNat)
  case atStart => exact ⟨0, by omega, rfl, H1.out⟩
  case round =>
    obtain ⟨k, hk, rfl, hA⟩ := hrel
    have HA := Lib.hid hA
    have hf := hA.c.free k
    have hl := sched_len b k
    by_cases hlt : k < 64
    · obtain ⟨cv, hcv⟩ := arrU_at (n := 64) (xs := sched b k) (by omega) k hlt
      have hc := hA.c.cell k
      rw [hcv] at hc
      clear hcv hl
      by_cases h16 : k < 16
      · clear hA
        go_wp2_with fail
        have n1 : 0 ≤ 4 * (k : Int) := by omega
        have n2 : 4 * (k : Int) < 64 := by omega
        have n3 : 0 ≤ 4 * (k : Int) + 1 := by omega
        have n4 : 4 * (k : Int) + 1 < 64 := by omega
        have n5 : 0 ≤ 4 * (k : Int) + 2 := by omega
        have n6 : 4 * (k : Int) + 2 < 64 := by omega
        have n7 : 0 ≤ 4 * (k : Int) + 3 := by omega
        have n8 : 4 * (k : Int) + 3 < 64 := by omega
        have m1 : (4 * (k : Int)).toNat = 4 * k := by omega
        have m2 : (4 * (k : Int) + 1).toNat = 4 * k + 1 := by omega
        have m3 : (4 * (k : Int) + 2).toNat = 4 * k + 2 := by omega
        have m4 : (4 * (k : Int) + 3).toNat = 4 * k + 3 := by omega
        have i1 : IntKind.i64.wrap (4 * (k : Int)) = 4 * (k : Int) := IntWalk.i64_in _ (by omega)
        have i2 : IntKind.i64.wrap (4 * (k : Int) + 1) = 4 * (k : Int) + 1 := IntWalk.i64_in _ (by omega)
        have i3 : IntKind.i64.wrap (4 * (k : Int) + 2) = 4 * (k : Int) + 2 := IntWalk.i64_in _ (by omega)
        have i4 : IntKind.i64.wrap (4 * (k : Int) + 3) = 4 * (k : Int) + 3 := IntWalk.i64_in _ (by omega)
        refine wp_region_quiet_tail 30 (by kernel_rfl) (by kernel_rfl) ?_
        simp only [List.take_succ_cons, List.take_zero, List.drop_succ_cons, List.drop_zero]
        repeat go_big_quiet_step (fail)
        refine wpQuiet_nil ?_
        intro w2 hw2
        have HA2 := Lib.hid (HA.out.drewn hw2)
        have hf2 := HA2.out.c.free k
        obtain ⟨cv2, hcv2⟩ := arrU_at (n := 64) (xs := sched b k) (by rw [sched_len]; omega) k hlt
        have hc2 := HA2.out.c.cell k
        rw [hcv2] at hc2
        clear hw2 hcv2 hf hc
        have HW := Lib.hid (word_val b k hb h16)
        go_wp2_with fail
        go_roundw
        case rel => exact ⟨k + 1, by omega, by go_num, by rw [HW.out]; exact HA2.out.step Hg.out (by rw [sched, if_pos h16]) hlt⟩
        case measure => simp [intOf]; omega
      · clear hA
        have n1 : 0 ≤ (k : Int) - 15 := by omega
        have n2 : (k : Int) - 15 < 64 := by omega
        have n3 : 0 ≤ (k : Int) - 2 := by omega
        have n4 : (k : Int) - 2 < 64 := by omega
        have n5 : 0 ≤ (k : Int) - 16 := by omega
        have n6 : (k : Int) - 16 < 64 := by omega
        have n7 : 0 ≤ (k : Int) - 7 := by omega
        have n8 : (k : Int) - 7 < 64 := by omega
        have m1 : ((k : Int) - 15).toNat = k - 15 := by omega
        have m2 : ((k : Int) - 2).toNat = k - 2 := by omega
        have m3 : ((k : Int) - 16).toNat = k - 16 := by omega
        have m4 : ((k : Int) - 7).toNat = k - 7 := by omega
        have i1 : IntKind.i64.wrap ((k : Int) - 15) = (k : Int) - 15 := IntWalk.i64_in _ (by omega)
        have i2 : IntKind.i64.wrap ((k : Int) - 2) = (k : Int) - 2 := IntWalk.i64_in _ (by omega)
        have i3 : IntKind.i64.wrap ((k : Int) - 16) = (k : Int) - 16 := IntWalk.i64_in _ (by omega)
        have i4 : IntKind.i64.wrap ((k : Int) - 7) = (k : Int) - 7 := IntWalk.i64_in _ (by omega)
        have c1 := HA.out.cellAt (k - 15) (by rw [sched_len]; omega)
        have c2 := HA.out.cellAt (k - 2) (by rw [sched_len]; omega)
        have HS := Lib.hid (show sched b (k + 1) = sched b k ++ [wNext (sched b k) k] by rw [sched, if_neg h16])
        unfold wNext at HS
        obtain ⟨x, hx⟩ : ∃ x, x = at0 (sched b k) (k - 15) := ⟨_, rfl⟩
        obtain ⟨y, hy⟩ : ∃ y, y = at0 (sched b k) (k - 2) := ⟨_, rfl⟩
        rw [← hx] at c1 HS
        rw [← hy] at c2 HS
        clear hx hy
        go_wp2_with fail
        go_quiet (fail)
        obtain ⟨w2, hw2⟩ : ∃ w2, w2 = wr.drewN nq := ⟨_, rfl⟩
        have HA2 := Lib.hid (HA.out.drewn ⟨nq, hw2⟩)
        rw [← hw2]
        have c3 := HA2.out.cellAt (k - 16) (by rw [sched_len]; omega)
        have c4 := HA2.out.cellAt (k - 7) (by rw [sched_len]; omega)
        obtain ⟨u, hu⟩ : ∃ u, u = at0 (sched b k) (k - 16) := ⟨_, rfl⟩
        obtain ⟨v, hv⟩ : ∃ v, v = at0 (sched b k) (k - 7) := ⟨_, rfl⟩
        rw [← hu] at c3 HS
        rw [← hv] at c4 HS
        clear hu hv hw2 hf hc c1 c2
        go_wp2_with fail
        refine wp_region_quiet_tail 28 (by kernel_rfl) (by kernel_rfl) ?_
        simp only [List.take_succ_cons, List.take_zero, List.drop_succ_cons, List.drop_zero]
        repeat go_big_quiet_step (fail)
        go_big_quiet_step (exact Calls.quiet_of_same (rP x 7 7 rfl (by decide) (by decide) _))
        repeat go_big_quiet_step (fail)
        go_big_quiet_step (exact Calls.quiet_of_same (rP x 18 18 rfl (by decide) (by decide) _))
        repeat go_big_quiet_step (fail)
        go_big_quiet_step (exact Calls.quiet_of_same (rP y 17 17 rfl (by decide) (by decide) _))
        repeat go_big_quiet_step (fail)
        go_big_quiet_step (exact Calls.quiet_of_same (rP y 19 19 rfl (by decide) (by decide) _))
        repeat go_big_quiet_step (fail)
        refine wpQuiet_nil ?_
        intro w3 hw3
        have HA3 := Lib.hid (HA2.out.drewn hw3)
        have hf3 := HA3.out.c.free k
        obtain ⟨cv3, hcv3⟩ := arrU_at (n := 64) (xs := sched b k) (by rw [sched_len]; omega) k hlt
        have hc3 := HA3.out.c.cell k
        rw [hcv3] at hc3
        clear hw3 hcv3
        go_wp2_with fail
        go_roundw
        case rel =>
          refine ⟨k + 1, by omega, by go_num, ?_⟩
          rw [shr3, shr10, xor32, xor32, xor32, xor32, sum4]
          exact HA3.out.step Hg.out HS.out hlt
        case measure => simp [intOf]; omega
    · obtain rfl : k = 64 := by omega
      rw [show ((64 : Nat) : Int) = 64 from rfl]
      clear hA hl hf
      have a0 : wr.cell? ⟨g0, 0, none⟩ = some (.int .u32 (s.a.toNat : Int)) := HA.out.a.cell 0
      have a1 : wr.cell? ⟨g0, 1, none⟩ = some (.int .u32 (s.b.toNat : Int)) := HA.out.a.cell 1
      have a2 : wr.cell? ⟨g0, 2, none⟩ = some (.int .u32 (s.c.toNat : Int)) := HA.out.a.cell 2
      have a3 : wr.cell? ⟨g0, 3, none⟩ = some (.int .u32 (s.d.toNat : Int)) := HA.out.a.cell 3
      have a4 : wr.cell? ⟨g0, 4, none⟩ = some (.int .u32 (s.e.toNat : Int)) := HA.out.a.cell 4
      have a5 : wr.cell? ⟨g0, 5, none⟩ = some (.int .u32 (s.f.toNat : Int)) := HA.out.a.cell 5
      have a6 : wr.cell? ⟨g0, 6, none⟩ = some (.int .u32 (s.g.toNat : Int)) := HA.out.a.cell 6
      have a7 : wr.cell? ⟨g0, 7, none⟩ = some (.int .u32 (s.h.toNat : Int)) := HA.out.a.cell 7
      obtain ⟨ws, hws⟩ : ∃ ws, ws = sched b 64 := ⟨_, rfl⟩
      rw [← hws] at HA
      have Hws := Lib.hid hws
      have hwl := sched_len b 64
      rw [← hws] at hwl
      have Hwl := Lib.hid hwl
      clear hws hwl
      go_wp2_with fail
      refine at_world (wr.alloc (.cells s.cells 157)) rfl (fun w3 hw3 => ?_)
      obtain ⟨g3, hg3⟩ : ∃ g, g = wr.heap.size := ⟨_, rfl⟩
      have HR0 := Lib.hid (show MixB w s s ws g0 g1 g2 g3 kb w3 by rw [hw3, hg3]; exact HA.out.start2 Hg.out)
      rw [← hg3]
      clear hw3 hg3 HA a0 a1 a2 a3 a4 a5 a6 a7 H1
      go_loopw [93] (fun x wr => MixRel2 w s ws g0 g1 g2 g3 kb x wr) (fun x _ => 64 - (intOf x).toNat)
      case atStart => exact ⟨0, by omega, rfl, HR0.out⟩
      case round =>
        obtain ⟨k, hk, rfl, hA⟩ := hrel
        have HA := Lib.hid hA
        clear hA
        by_cases hlt : k < 64
        · have HS := Lib.hid (show rnds s ws (k + 1) = rnd (rnds s ws k) (at0 kL k) (at0 ws k) from rfl)
          obtain ⟨t, ht⟩ : ∃ t, t = rnds s ws k := ⟨_, rfl⟩
          rw [← ht] at HA HS
          obtain ⟨kk, hkk⟩ : ∃ x, x = at0 kL k := ⟨_, rfl⟩
          obtain ⟨ww, hww⟩ : ∃ x, x = at0 ws k := ⟨_, rfl⟩
          rw [← hkk, ← hww] at HS
          have Hkk := Lib.hid hkk
          have Hww := Lib.hid hww
          clear ht hkk hww
          have v0 := HA.out.c0
          have v4 := HA.out.c4
          go_wp2_with fail
          go_quiet (fail)
          obtain ⟨w4, hw4⟩ : ∃ w4, w4 = wr.drewN nq := ⟨_, rfl⟩
          have HA4 := Lib.hid (HA.out.drewn ⟨nq, hw4⟩)
          rw [← hw4]
          clear hw4 v0 v4 HA
          have v5 := HA4.out.c5
          have v6 := HA4.out.c6
          have v7 := HA4.out.c7
          have vk := HA4.out.cellK k hlt
          have vw := HA4.out.A.cellAt k (by rw [Hwl.out]; exact hlt)
          rw [← Hkk.out] at vk
          rw [← Hww.out] at vw
          go_wp2_with fail
          refine wp_region_quiet_lit (by kernel_rfl) (by kernel_rfl) ?_
          repeat go_big_quiet_step (fail)
          go_big_quiet_step (exact Calls.quiet_of_same (rP t.e 6 6 rfl (by decide) (by decide) _))
          repeat go_big_quiet_step (fail)
          go_big_quiet_step (exact Calls.quiet_of_same (rP t.e 11 11 rfl (by decide) (by decide) _))
          repeat go_big_quiet_step (fail)
          go_big_quiet_step (exact Calls.quiet_of_same (rP t.e 25 25 rfl (by decide) (by decide) _))
          repeat go_big_quiet_step (fail)
          refine wpQuiet_nil ?_
          intro w5 hw5
          have HA5 := Lib.hid (HA4.out.drewn hw5)
          clear hw5 v5 v6 v7 vk vw HA4
          have v1 := HA5.out.c1
          have v2 := HA5.out.c2
          go_wp2_with fail
          rw [one_val t kk ww]
          obtain ⟨on, hon⟩ : ∃ x, x = oneOf t kk ww := ⟨_, rfl⟩
          rw [← hon]
          have Hon := Lib.hid hon
          clear hon
          refine wp_region_quiet_lit (by kernel_rfl) (by kernel_rfl) ?_
          repeat go_big_quiet_step (fail)
          go_big_quiet_step (exact Calls.quiet_of_same (rP t.a 2 2 rfl (by decide) (by decide) _))
          repeat go_big_quiet_step (fail)
          go_big_quiet_step (exact Calls.quiet_of_same (rP t.a 13 13 rfl (by decide) (by decide) _))
          repeat go_big_quiet_step (fail)
          go_big_quiet_step (exact Calls.quiet_of_same (rP t.a 22 22 rfl (by decide) (by decide) _))
          repeat go_big_quiet_step (fail)
          refine wpQuiet_nil ?_
          intro w6 hw6
          have HA6 := Lib.hid (HA5.out.drewn hw6)
          clear hw6 v1 v2 HA5
          go_wp2_with fail
          rw [two_val t]
          obtain ⟨tw, htw⟩ : ∃ x, x = twoOf t := ⟨_, rfl⟩
          rw [← htw]
          have Htw := Lib.hid htw
          clear htw
          go_still_tail 2, (by kernel_rfl)
          have hV : Blk w6.drew g3 t.cells 157 := HA6.out.v
          refine wpList_copy_own rfl (.tmp 156) (.tmp 157) 81 81 rfl 82 Tryz.underlying81 (by kernel_rfl) g3 1 7 7 ⟨g3, 0, none⟩ 7 8 rfl rfl t.cells 157 hV (t.cells.toList.take 7) rfl (fun j v hj => hV.head7 j v hj) (show 1 + 7 ≤ 8 by decide) (by intro v hv; exact St.one v (List.mem_of_mem_take hv)) ?_
          obtain ⟨w7, hw7⟩ : ∃ w7, w7 = w6.drew.setRow g3 (shifted t) := ⟨_, rfl⟩
          have HB7 := Lib.hid (HA6.out.copied Hg.out hw7)
          refine at_list w7 hw7.symm ?_
          clear hw7 hV HA6
          have x0 : w7.cell? ⟨g3, 0, none⟩ = some (.int .u32 (t.a.toNat : Int)) := HB7.out.2.cell 0
          have x4 : w7.cell? ⟨g3, 4, none⟩ = some (.int .u32 (t.d.toNat : Int)) := HB7.out.2.cell 4
          have y0 := HB7.out.2.free 0
          have y4 := HB7.out.2.free 4
          go_wp2_with fail
          go_roundw
          case rel =>
            rw [sum2, sum2]
            refine ⟨k + 1, by omega, by go_num, ?_⟩
            rw [HS.out]
            unfold rnd
            rw [← Hon.out, ← Htw.out]
            exact MixA.stepped HB7.out.1 HB7.out.2 Hg.out
          case measure => simp [intOf]; omega
        · obtain rfl : k = 64 := by omega
          have HC := Lib.hid (HA.out.start3 Hg.out)
          have Hmix := Lib.hid (show s.add (rnds s ws 64) = mix s b by rw [Hws.out]; rfl)
          obtain ⟨t, ht⟩ : ∃ t, t = rnds s ws 64 := ⟨_, rfl⟩
          rw [← ht] at HC Hmix
          clear ht HA
          rw [show ((64 : Nat) : Int) = 64 from rfl]
          go_wp2_with fail
          go_loopw [169] (fun x wr => MixRel3 w s t g0 g1 g3 x wr) (fun x _ => 8 - (intOf x).toNat)
          case atStart => exact ⟨0, by omega, rfl, HC.out⟩
          case round =>
            obtain ⟨i, hi, rfl, hA⟩ := hrel
            have HA := Lib.hid hA
            clear hA
            by_cases hlt8 : i < 8
            · have l0 := HA.out.s0 i hlt8
              have l1 := HA.out.v0 i hlt8
              obtain ⟨x, hx⟩ : ∃ x, x = at0 (stL s) i := ⟨_, rfl⟩
              obtain ⟨y, hy⟩ : ∃ y, y = at0 (stL t) i := ⟨_, rfl⟩
              rw [← hx] at l0
              rw [← hy] at l1
              have Hx := Lib.hid hx
              have Hy := Lib.hid hy
              clear hx hy
              go_wp2_with fail
              refine wp_region_quiet_tail 7 (by kernel_rfl) (by kernel_rfl) ?_
              simp only [List.take_succ_cons, List.take_zero, List.drop_succ_cons, List.drop_zero]
              repeat go_big_quiet_step (fail)
              refine wpQuiet_nil ?_
              intro w6 hw6
              have HA6 := Lib.hid (HA.out.drewn hw6)
              have f0 := HA6.out.a.free i
              have l2 := HA6.out.s0 i hlt8
              clear hw6
              go_wp2_with fail
              go_roundw
              case rel =>
                refine ⟨i + 1, by omega, by go_num, ?_⟩
                rw [sum2, Hx.out, Hy.out]
                exact HA6.out.step hlt8
              case measure => simp [intOf]; omega
            · obtain rfl : i = 8 := by omega
              have p0 : wr.cell? ⟨g0, 0, none⟩ = some (.int .u32 ((s.add t).a.toNat : Int)) := HA.out.a.cell 0
              have p1 : wr.cell? ⟨g0, 1, none⟩ = some (.int .u32 ((s.add t).b.toNat : Int)) := HA.out.a.cell 1
              have p2 : wr.cell? ⟨g0, 2, none⟩ = some (.int .u32 ((s.add t).c.toNat : Int)) := HA.out.a.cell 2
              have p3 : wr.cell? ⟨g0, 3, none⟩ = some (.int .u32 ((s.add t).d.toNat : Int)) := HA.out.a.cell 3
              have p4 : wr.cell? ⟨g0, 4, none⟩ = some (.int .u32 ((s.add t).e.toNat : Int)) := HA.out.a.cell 4
              have p5 : wr.cell? ⟨g0, 5, none⟩ = some (.int .u32 ((s.add t).f.toNat : Int)) := HA.out.a.cell 5
              have p6 : wr.cell? ⟨g0, 6, none⟩ = some (.int .u32 ((s.add t).g.toNat : Int)) := HA.out.a.cell 6
              have p7 : wr.cell? ⟨g0, 7, none⟩ = some (.int .u32 ((s.add t).h.toNat : Int)) := HA.out.a.cell 7
              have q0 : wr.cell? ⟨g1, 0, none⟩ = some (.int .u32 0) := HA.out.b.cell 0
              have r0 := HA.out.b.free 0
              have q1 : wr.cell? ⟨g1, 1, none⟩ = some (.int .u32 0) := HA.out.b.cell 1
              have r1 := HA.out.b.free 1
              have q2 : wr.cell? ⟨g1, 2, none⟩ = some (.int .u32 0) := HA.out.b.cell 2
              have r2 := HA.out.b.free 2
              have q3 : wr.cell? ⟨g1, 3, none⟩ = some (.int .u32 0) := HA.out.b.cell 3
              have r3 := HA.out.b.free 3
              have q4 : wr.cell? ⟨g1, 4, none⟩ = some (.int .u32 0) := HA.out.b.cell 4
              have r4 := HA.out.b.free 4
              have q5 : wr.cell? ⟨g1, 5, none⟩ = some (.int .u32 0) := HA.out.b.cell 5
              have r5 := HA.out.b.free 5
              have q6 : wr.cell? ⟨g1, 6, none⟩ = some (.int .u32 0) := HA.out.b.cell 6
              have r6 := HA.out.b.free 6
              have q7 : wr.cell? ⟨g1, 7, none⟩ = some (.int .u32 0) := HA.out.b.cell 7
              have r7 := HA.out.b.free 7
              rw [Hmix.out] at p0 p1 p2 p3 p4 p5 p6 p7
              go_wp2_with fail
              refine bodyPost_ret (v := .agg (mix s b).cells) (results_cell_row (p := 6) (ty := 157) (by kernel_rfl) _ _ g1 157 (mix s b).cells (0, 0) _ rfl ((((((((HA.out.b.set 0 _).set 1 _).set 2 _).set 3 _).set 4 _).set 5 _).set 6 _).set 7 _) Tryz.underlying157 rfl (by kernel_rfl)) rfl ⟨rfl, ((((((((HA.out.B.setCell HA.out.l1 _).setCell HA.out.l1 _).setCell HA.out.l1 _).setCell HA.out.l1 _).setCell HA.out.l1 _).setCell HA.out.l1 _).setCell HA.out.l1 _).setCell HA.out.l1 _)⟩
end Go.Proofs.YticnmogeknlmeaaGreatDoor.B
namespace Go.Proofs.YticnmogeknlmeaaGreatDoor.B
open Go.RowKit Go.Proofs.YticnmogeknlmeaaGreatDoorW.PrintWords
set_option maxRecDepth 100000
set_option maxHeartbeats 1600000
/-- All whole blocks of bytes, mixed in one behind the other. -/
def absorb (s : St) (l : List UInt8) : St := if _h : l.length < 64 then s else absorb (mix s (l.take 64)) (l.drop 64)
termination_by l.length
decreasing_by simp; omega
/-- What is left behind the whole blocks. -/
def leftover (l : List UInt8) : List UInt8 := if _h : l.length < 64 then l else leftover (l.drop 64)
termination_by l.length
decreasing_by simp; omega
theorem absorb_lt {s : St} {l : List UInt8} (h : l.length < 64) : absorb s l = s := by rw [absorb, dif_pos h]
theorem absorb_ge {s : St} {l : List UInt8} (h : 64 ≤ l.length) : absorb s l = absorb (mix s (l.take 64)) (l.drop 64) := by rw [absorb, dif_neg (by omega)]
theorem leftover_lt {l : List UInt8} (h : l.length < 64) : leftover l = l := by rw [leftover, dif_pos h]
theorem leftover_ge {l : List UInt8} (h : 64 ≤ l.length) : leftover l = leftover (l.drop 64) := by rw [leftover, dif_neg (by omega)]
theorem absorb_app (r : List UInt8) : ∀ (n : Nat) (l : List UInt8) (s : St), l.length ≤ n → absorb s (l ++ r) = absorb (absorb s l) (leftover l ++ r)
  | 0, l, s, h => by rw [absorb_lt (l := l) (by omega), leftover_lt (by omega)]
  | n + 1, l, s, h => by
    by_cases hl : l.length < 64
    · rw [absorb_lt hl, leftover_lt hl]
    · rw [absorb_ge (l := l ++ r) (by simp; omega), absorb_ge (l := l) (by omega), leftover_ge (by omega), List.take_append_of_le_length (by omega), List.drop_append_of_le_length (by omega)]
      exact absorb_app r n (l.drop 64) _ (by simp; omega)
theorem leftover_len : ∀ (n : Nat) (l : List UInt8), l.length ≤ n → (leftover l).length = l.length % 64
  | 0, l, h => by rw [leftover_lt (by omega), Nat.mod_eq_of_lt (by omega)]
  | n + 1, l, h => by
    by_cases hl : l.length < 64
    · rw [leftover_lt hl, Nat.mod_eq_of_lt hl]
    · rw [leftover_ge (by omega), leftover_len n (l.drop 64) (by simp; omega)]
      simp; omega
/-- How many zeros stand behind so many bytes. -/
def zerosFor (n : Nat) : Nat := (120 - n % 64) % 64
def byteAt (n i : Nat) : UInt8 := UInt8.ofNat (n * 8 % 18446744073709551616 / 2 ^ (56 - 8 * i))
/-- How many bits, as eight bytes, the highest first. -/
def len8 (n : Nat) : List UInt8 := (List.range 8).map (byteAt n)
def tailOf (n : Nat) : List UInt8 := [128] ++ List.replicate (zerosFor (n + 1)) 0 ++ len8 n
def H0 : St := ⟨at0 hL 0, at0 hL 1, at0 hL 2, at0 hL 3, at0 hL 4, at0 hL 5, at0 hL 6, at0 hL 7⟩
theorem H0_cells : H0.cells = arrU 8 hL := rfl
def b4 (x : W32) : List UInt8 := [UInt8.ofNat (x.toNat / 16777216), UInt8.ofNat (x.toNat / 65536), UInt8.ofNat (x.toNat / 256), UInt8.ofNat x.toNat]
/-- The digest of bytes. -/
def shaL (l : List UInt8) : List UInt8 := (stL (absorb H0 (l ++ tailOf l.length))).flatMap b4
theorem shaL_len (l : List UInt8) : (shaL l).length = 32 := rfl
theorem sha_split (l : List UInt8) : absorb H0 (l ++ tailOf l.length) = absorb (absorb H0 l) (leftover l ++ tailOf l.length) := absorb_app _ l.length l H0 (Nat.le_refl _)
theorem tail_len (n m : Nat) (h : m % 64 = n % 64) : (m + (tailOf n).length) % 64 = 0 := by
  simp [tailOf, len8, zerosFor]
  omega
end Go.Proofs.YticnmogeknlmeaaGreatDoor.B
