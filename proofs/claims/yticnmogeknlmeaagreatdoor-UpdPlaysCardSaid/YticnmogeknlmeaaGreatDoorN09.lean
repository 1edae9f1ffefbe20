/- Helper: the document's digest of bytes, walked. No condition. -/
import Derived.Test.YticnmogeknlmeaaGreatDoorN08
import Derived.Test.YticnmogeknlmeaaGreatDoorN06
import Derived.Test.YticnmogeknlmeaaGreatDoorN02
namespace Go.Proofs.YticnmogeknlmeaaGreatDoor.B
open Go.RowKit Go.Proofs.YticnmogeknlmeaaGreatDoorW.PrintWords Go.Proofs.YticnmogeknlmeaaGreatDoor.Later
set_option maxRecDepth 100000
set_option maxHeartbeats 1600000
def RefR (w : World) (pv : Value) (g : Nat) (x hv kv : Value) (wr : World) : Prop := ∃ i : Nat, i + g = 64 ∧ x = .int .i64 (i : Int) ∧ RefA w i pv hv kv wr
theorem p_cell {w : World} {base pb cap : Nat} {v : Value} (h : RowE enc64 84 w base v primesL) (hv : v = .slice (some ⟨pb, 0, none⟩) 64 cap) (i : Nat) (hi : i < primesL.length) {p : Nat} (hp : p = primesL[i]) : w.cell? ⟨pb, i, none⟩ = some (.int .u64 (p : Int)) := by
  subst hv hp
  exact (RowE.cell (xs := primesL) h i hi).1
theorem RefA.start {w wc : World} {v : Value} (hP : RowE enc64 84 wc w.heap.size v primesL) (hB : Below w.heap.size w wc) : RefA w 0 v (.slice (some ⟨wc.heap.size, 0, none⟩) 0 0) (.slice (some ⟨wc.heap.size + 1, 0, none⟩) 0 0) ((wc.alloc (.cells #[] 82)).alloc (.cells #[] 82)) := by
  have hs := hB.size
  have al : ∀ (W : World) (o : Obj), Below W.heap.size W (W.alloc o) := fun W o => (Below.refl _ _).alloc (Nat.le_refl _) o
  have r0 := RowE.lit (enc := u32) (e := 82) wc w.heap.size [] hs (by simp)
  have r1 := RowE.lit (enc := u32) (e := 82) (wc.alloc (.cells #[] 82)) w.heap.size [] (by simp; omega) (by simp)
  rw [show (wc.alloc (.cells #[] 82)).heap.size = wc.heap.size + 1 by simp] at r1
  refine ⟨(hP.below (al _ _)).below (al _ _), r0.below (al _ _), r1, fun k hk hk' => ?_, (hB.alloc hs _).alloc (by simp; omega) _⟩
  simp [Value.ownBlock] at hk hk'
  omega
/-- The rows behind the beginning: the words, the numbers, the bytes. -/
structure RefB (w : World) (s : St) (gh gk : Nat) (v : Value) (xs : List UInt8) (wr : World) : Prop where
  h : Pre wr gh (stL s)
  k : Pre wr gk kL
  r : RowF wr w.heap.size v xs
  ne : gh ≠ gk
  lh : w.heap.size ≤ gh
  lk : w.heap.size ≤ gk
  B : Below w.heap.size w wr
structure RefP (w : World) (gh gk : Nat) (wr : World) : Prop where
  h : Pre wr gh (stL H0)
  k : Pre wr gk kL
  ne : gh ≠ gk
  lh : w.heap.size ≤ gh
  lk : w.heap.size ≤ gk
  B : Below w.heap.size w wr
theorem RefA.fin {w wr : World} {pv hv kv : Value} (h : RefA w 64 pv hv kv wr) : ∃ gh ch gk ck, hv = .slice (some ⟨gh, 0, none⟩) 8 ch ∧ kv = .slice (some ⟨gk, 0, none⟩) 64 ck ∧ RefP w gh gk wr := by
  have h1 := h.h
  have h2 := h.k
  rw [show min 64 8 = 8 from rfl, same_h] at h1
  rw [show primesL.take 64 = primesL from rfl, same_k] at h2
  obtain ⟨gh, ch, e1, b1, p1⟩ := RowE.pre h1 (by decide)
  obtain ⟨gk, ck, e2, b2, p2⟩ := RowE.pre h2 (by rw [kL_len]; decide)
  have hne : gh ≠ gk := fun e => h.ne gh (by rw [e1]; rfl) (by rw [e2, e]; rfl)
  exact ⟨gh, ch, gk, ck, e1, by rw [e2, kL_len], p1, p2, hne, b1, b2, h.B⟩
theorem RefP.bytes {w wr : World} {gh gk : Nat} (h : RefP w gh gk wr) (l : List UInt8) (hl : l.length < 4294967296) : RefB w H0 gh gk (.slice (some ⟨wr.heap.size, 0, none⟩) (bs l).size (grownCap wr (bs l).size 0 5)) l (Lib.bytesWorld wr 5 (bs l)) := by
  have hb := bytes_below (Below.refl wr.heap.size wr) (Nat.le_refl _) 5 (bs l)
  exact ⟨h.h.below hb, h.k.below hb, RowF.of_string wr l w.heap.size h.B.size (by omega), h.ne, h.lh, h.lk, bytes_below h.B h.B.size 5 (bs l)⟩
theorem Pre.keep {w w' : World} {g : Nat} {xs : List W32} (h : Pre w g xs) (hk : ∀ (i : Nat) (cs : Array Value) (t : TypeId), t ≠ 5 → Blk w i cs t → Blk w' i cs t) : Pre w' g xs := by
  obtain ⟨cur, h1, h2⟩ := h
  exact ⟨cur, hk g cur 82 (by decide) h1, h2⟩
theorem RefB.app {w W w1 : World} {s : St} {gh gk : Nat} {v v1 : Value} {xs ys : List UInt8} (h : RefB w s gh gk v xs W) (hr : RowF w1 w.heap.size v1 ys) (hB : Below w.heap.size w w1) (hk : ∀ (i : Nat) (cs : Array Value) (t : TypeId), t ≠ 5 → Blk W i cs t → Blk w1 i cs t) : RefB w s gh gk v1 ys w1 :=
  ⟨h.h.keep hk, h.k.keep hk, hr, h.ne, h.lh, h.lk, hB⟩
theorem RefB.below {w wr w2 : World} {s : St} {gh gk : Nat} {v : Value} {xs : List UInt8} (h : RefB w s gh gk v xs wr) (hb : Below wr.heap.size wr w2) : RefB w s gh gk v xs w2 :=
  ⟨h.h.below hb, h.k.below hb, h.r.below hb, h.ne, h.lh, h.lk, h.B.trans (hb.mono h.B.size)⟩
theorem RefB.drewn {w wr w2 : World} {s : St} {gh gk : Nat} {v : Value} {xs : List UInt8} (h : RefB w s gh gk v xs wr) (hw : ∃ m : Nat, w2 = wr.drewN m) : RefB w s gh gk v xs w2 := by
  obtain ⟨m, rfl⟩ := hw
  exact h.below (below_drewN (Below.refl _ _) m)
theorem byte_at {w : World} {base gb cb a : Nat} {p bk : List UInt8} (h : RowF w base (.slice (some ⟨gb, 0, none⟩) p.length cb) p) (ha : a + 64 ≤ p.length) (hb : bk = (p.drop a).take 64) {i : Nat} (hi : i < 64) : w.cell? ⟨gb, a + i, none⟩ = some (.int .u8 ((bk.getD i 0).toNat : Int)) := by
  obtain ⟨g, cap, hv, _, _, hc⟩ := h.cell
  injection hv with hv1 hv2
  injection hv1 with hv1
  injection hv1 with hv1
  subst hv1
  have := hc (a + i) (by omega)
  rw [this, hb]
  simp [encB, List.getD_eq_getElem?_getD, List.getElem?_drop, hi, List.getElem?_eq_getElem (show a + i < p.length by omega)]
def AbsAt (p : List UInt8) (s : St) (n : Nat) : Prop := absorb H0 p = absorb s (p.drop (64 * n))
theorem absAt_zero (p : List UInt8) : AbsAt p H0 0 := by rw [AbsAt, Nat.mul_zero, List.drop_zero]
theorem next_val (u x v y : W32) : ((u.toNat : Int) + Go.bits BinOp.xor IntKind.u32 (Go.bits BinOp.xor IntKind.u32 ((rr x 7).toNat : Int) ((rr x 18).toNat : Int)) ((x.toNat : Int) / 8) + (v.toNat : Int) + Go.bits BinOp.xor IntKind.u32 (Go.bits BinOp.xor IntKind.u32 ((rr y 17).toNat : Int) ((rr y 19).toNat : Int)) ((y.toNat : Int) / 1024)) % (4294967296 : Int) = ((u + (rr x 7 ^^^ rr x 18 ^^^ x >>> 3) + v + (rr y 17 ^^^ rr y 19 ^^^ y >>> 10)).toNat : Int) := by
  rw [shr3, shr10, xor32, xor32, xor32, xor32, sum4]
/-- A word, byte by byte. -/
def wpart (b : List UInt8) (i : Nat) : Nat → W32
  | 0 => 0
  | j + 1 => wpart b i j * 256 + BitVec.ofNat 32 (b.getD (4 * i + j) 0).toNat
theorem wpart_4 (b : List UInt8) (i : Nat) : wpart b i 4 = word b i := by
  simp only [wpart, word, Nat.add_zero]
  obtain ⟨p, hp⟩ : ∃ p, p = b.getD (4 * i) 0 := ⟨_, rfl⟩
  obtain ⟨q, hq⟩ : ∃ p, p = b.getD (4 * i + 1) 0 := ⟨_, rfl⟩
  obtain ⟨r, hr⟩ : ∃ p, p = b.getD (4 * i + 2) 0 := ⟨_, rfl⟩
  obtain ⟨s, hs⟩ : ∃ p, p = b.getD (4 * i + 3) 0 := ⟨_, rfl⟩
  rw [← hp, ← hq, ← hr, ← hs]
  have h1 := p.toNat_lt
  have h2 := q.toNat_lt
  have h3 := r.toNat_lt
  have h4 := s.toNat_lt
  rw [show (0 : W32) * 256 + BitVec.ofNat 32 p.toNat = BitVec.ofNat 32 p.toNat by simp]
  apply BitVec.eq_of_toNat_eq
  have e1 : p.toNat <<< 24 ||| q.toNat <<< 16 = (p.toNat * 256 + q.toNat) <<< 16 := by
    have := Nat.shiftLeft_add_eq_or_of_lt (a := p.toNat) (b := q.toNat <<< 16) (i := 24) (by rw [Nat.shiftLeft_eq]; omega)
    rw [← this]
    simp only [Nat.shiftLeft_eq]
    omega
  have e2 : (p.toNat * 256 + q.toNat) <<< 16 ||| r.toNat <<< 8 = ((p.toNat * 256 + q.toNat) * 256 + r.toNat) <<< 8 := by
    have := Nat.shiftLeft_add_eq_or_of_lt (a := p.toNat * 256 + q.toNat) (b := r.toNat <<< 8) (i := 16) (by rw [Nat.shiftLeft_eq]; omega)
    rw [← this]
    simp only [Nat.shiftLeft_eq]
    omega
  have e3 : ((p.toNat * 256 + q.toNat) * 256 + r.toNat) <<< 8 ||| s.toNat = ((p.toNat * 256 + q.toNat) * 256 + r.toNat) * 256 + s.toNat := by
    have := Nat.shiftLeft_add_eq_or_of_lt (a := (p.toNat * 256 + q.toNat) * 256 + r.toNat) (b := s.toNat) (i := 8) (by omega)
    rw [← this]
    simp only [Nat.shiftLeft_eq]
  have l1 : p.toNat <<< 24 < 4294967296 := by rw [Nat.shiftLeft_eq]; omega
  have l2 : q.toNat <<< 16 < 4294967296 := by rw [Nat.shiftLeft_eq]; omega
  have l3 : r.toNat <<< 8 < 4294967296 := by rw [Nat.shiftLeft_eq]; omega
  simp only [BitVec.toNat_or, BitVec.toNat_shiftLeft, BitVec.toNat_ofNat, BitVec.toNat_add, BitVec.toNat_mul, show (256 : W32).toNat = 256 from rfl]
  rw [Nat.mod_eq_of_lt (show p.toNat < 2 ^ 32 by omega), Nat.mod_eq_of_lt (show q.toNat < 2 ^ 32 by omega), Nat.mod_eq_of_lt (show r.toNat < 2 ^ 32 by omega), Nat.mod_eq_of_lt (show s.toNat < 2 ^ 32 by omega), Nat.mod_eq_of_lt (show p.toNat <<< 24 < 2 ^ 32 from l1), Nat.mod_eq_of_lt (show q.toNat <<< 16 < 2 ^ 32 from l2), Nat.mod_eq_of_lt (show r.toNat <<< 8 < 2 ^ 32 from l3), e1, e2, e3]
  omega
theorem Pre.reads {w : World} {g : Nat} {xs : List W32} (h : Pre w g xs) {n : Nat} (hn : xs.length = n) (hm : n ≤ 9223372036854775807 := by decide) : ReadsOf B.u32 0 w (some ⟨g, 0, none⟩) n xs := by
  refine ⟨hn, hm, fun _ => ⟨_, rfl, fun j hj => ?_⟩⟩
  rw [add_plain]
  exact h.cell j (by omega)
theorem ch_or (e f g : W32) : (e &&& f ||| ~~~e &&& g) = (e &&& f ^^^ ~~~e &&& g) := by
  apply BitVec.eq_of_getLsbD_eq
  intro i hi
  simp only [BitVec.getLsbD_or, BitVec.getLsbD_and, BitVec.getLsbD_xor, BitVec.getLsbD_not, hi, decide_true, Bool.true_and]
  cases e.getLsbD i <;> cases f.getLsbD i <;> cases g.getLsbD i <;> rfl
theorem maj_or (a b c : W32) : (a &&& b ||| a &&& c ||| b &&& c) = (a &&& b ^^^ a &&& c ^^^ b &&& c) := by
  apply BitVec.eq_of_getLsbD_eq
  intro i hi
  simp only [BitVec.getLsbD_or, BitVec.getLsbD_and, BitVec.getLsbD_xor]
  cases a.getLsbD i <;> cases b.getLsbD i <;> cases c.getLsbD i <;> rfl
theorem notR (e : W32) : (4294967295 : Int) - (e.toNat : Int) = ((~~~e).toNat : Int) := by
  have := e.isLt
  rw [BitVec.toNat_not]
  omega
theorem oneR_val (t : St) (k w : W32) : ((((t.h.toNat : Int) + Go.bits BinOp.xor IntKind.u32 (Go.bits BinOp.xor IntKind.u32 ((rr t.e 6).toNat : Int) ((rr t.e 11).toNat : Int)) ((rr t.e 25).toNat : Int) + Go.bits BinOp.or IntKind.u32 (Go.bits BinOp.and IntKind.u32 (t.e.toNat : Int) (t.f.toNat : Int)) (Go.bits BinOp.and IntKind.u32 ((4294967295 : Int) - (t.e.toNat : Int)) (t.g.toNat : Int)) + (k.toNat : Int)) % (4294967296 : Int) + (w.toNat : Int)) % (4294967296 : Int)) = ((oneOf t k w).toNat : Int) := by
  rw [notR, and32, and32, or32, xor32, xor32, ch_or, sum4, sum2]
  rfl
theorem twoR_val (t : St) : (Go.bits BinOp.xor IntKind.u32 (Go.bits BinOp.xor IntKind.u32 ((rr t.a 2).toNat : Int) ((rr t.a 13).toNat : Int)) ((rr t.a 22).toNat : Int) + Go.bits BinOp.or IntKind.u32 (Go.bits BinOp.or IntKind.u32 (Go.bits BinOp.and IntKind.u32 (t.a.toNat : Int) (t.b.toNat : Int)) (Go.bits BinOp.and IntKind.u32 (t.a.toNat : Int) (t.c.toNat : Int))) (Go.bits BinOp.and IntKind.u32 (t.b.toNat : Int) (t.c.toNat : Int))) % (4294967296 : Int) = ((twoOf t).toNat : Int) := by
  rw [and32, and32, and32, or32, or32, xor32, xor32, maj_or, sum2]
  rfl
theorem pre_new (w7 : World) (t : St) (on tw : W32) : Pre (w7.alloc (.cells #[.int .u32 (((on.toNat : Int) + (tw.toNat : Int)) % (4294967296 : Int)), .int .u32 (t.a.toNat : Int), .int .u32 (t.b.toNat : Int), .int .u32 (t.c.toNat : Int), .int .u32 (((t.d.toNat : Int) + (on.toNat : Int)) % (4294967296 : Int)), .int .u32 (t.e.toNat : Int), .int .u32 (t.f.toNat : Int), .int .u32 (t.g.toNat : Int)] 82)) w7.heap.size (stL ⟨on + tw, t.a, t.b, t.c, t.d + on, t.e, t.f, t.g⟩) := by
  refine ⟨_, Blk.new w7 _ 82, fun i hi => ?_⟩
  rw [sum2, sum2]
  have : i < 8 := hi
  have : i = 0 ∨ i = 1 ∨ i = 2 ∨ i = 3 ∨ i = 4 ∨ i = 5 ∨ i = 6 ∨ i = 7 := by omega
  rcases this with rfl | rfl | rfl | rfl | rfl | rfl | rfl | rfl <;> rfl
theorem RowF.far {w : World} {base g : Nat} {v : Value} {xs : List UInt8} (h : RowF w base v xs) {ys : List W32} (hp : Pre w g ys) (i : Nat) (u : Value) : RowF (w.setCell ⟨g, i, none⟩ u) base v xs := by
  obtain ⟨gb, cap, cur, lo, hi, h1, h2, h3, r⟩ := h
  obtain ⟨c2, hb, _⟩ := hp
  have hne : gb ≠ g := fun e => by
    subst e
    rw [Blk, h3] at hb
    injection hb with hb
    injection hb with _ hb
    exact absurd hb (by decide)
  exact ⟨gb, cap, cur, lo, hi, h1, h2, by rw [Below.heap_setCell _ _ _ _ hne]; exact h3, r⟩
/-- The rows while the words are added. -/
structure RefD (w : World) (s t : St) (gh gk gv : Nat) (rv : Value) (xs : List UInt8) (i : Nat) (wr : World) : Prop where
  h : Pre wr gh (part s t i)
  v : Pre wr gv (stL t)
  k : Pre wr gk kL
  r : RowF wr w.heap.size rv xs
  ne : gh ≠ gk
  nv : gv ≠ gh
  lh : w.heap.size ≤ gh
  lk : w.heap.size ≤ gk
  B : Below w.heap.size w wr
theorem RefD.below {w : World} {s t : St} {gh gk gv : Nat} {v : Value} {xs : List UInt8} {i : Nat} {wr w2 : World} (h : RefD w s t gh gk gv v xs i wr) (hb : Below wr.heap.size wr w2) : RefD w s t gh gk gv v xs i w2 :=
  ⟨h.h.below hb, h.v.below hb, h.k.below hb, h.r.below hb, h.ne, h.nv, h.lh, h.lk, h.B.trans (hb.mono h.B.size)⟩
theorem RefD.s0 {w : World} {s t : St} {gh gk gv : Nat} {v : Value} {xs : List UInt8} {i : Nat} {wr : World} (h : RefD w s t gh gk gv v xs i wr) (j : Nat) (hj : j < 8) (hij : i ≤ j := by exact Nat.le_refl _) : wr.cell? ⟨gh, j, none⟩ = some (.int .u32 ((at0 (stL s) j).toNat : Int)) := by
  rw [← part_at s t i j hij]
  exact h.h.cell j (by rw [part_len]; exact hj)
theorem RefD.step {w : World} {s t : St} {gh gk gv : Nat} {v : Value} {xs : List UInt8} {i : Nat} {wr : World} (h : RefD w s t gh gk gv v xs i wr) (hi : i < 8) : RefD w s t gh gk gv v xs (i + 1) (wr.setCell ⟨gh, i, none⟩ (.int .u32 ((at0 (stL s) i + at0 (stL t) i).toNat : Int))) :=
  ⟨h.h.set i (by rw [part_len]; exact hi) _, h.v.far h.nv _, h.k.far (fun e => h.ne e.symm) _, h.r.far h.h i _, h.ne, h.nv, h.lh, h.lk, h.B.setCell h.lh _⟩
theorem RefD.fin {w : World} {s t : St} {gh gk gv : Nat} {v : Value} {xs : List UInt8} {wr : World} (h : RefD w s t gh gk gv v xs 8 wr) : RefB w (s.add t) gh gk v xs wr :=
  ⟨by rw [← part_8]; exact h.h, h.k, h.r, h.ne, h.lh, h.lk, h.B⟩
theorem absAt_succ {p bk : List UInt8} {s : St} {n a : Nat} (h : AbsAt p s n) (ha : a = 64 * n) (hb : bk = (p.drop a).take 64) (hl : a + 64 ≤ p.length) : AbsAt p (mix s bk) (n + 1) := by
  unfold AbsAt at *
  rw [h, absorb_ge (by rw [List.length_drop]; omega), hb, ha, List.drop_drop]
  rw [show 64 * n + 64 = 64 * (n + 1) by omega]
theorem absAt_end {l p : List UInt8} {s : St} {n : Nat} (h : AbsAt p s n) (hp : p = l ++ tailOf l.length) (h64 : p.length % 64 = 0) (hn : n = p.length / 64) : absorb H0 (l ++ tailOf l.length) = s := by
  unfold AbsAt at h
  rw [← hp, h, List.drop_eq_nil_of_le (by omega), absorb_lt (by simp)]
theorem Row.below9 {w w' : World} {base : Nat} {v : Value} {xs : List UInt8} (h : Row w base v xs) (hb : Below w.heap.size w w') : Row w' base v xs := pw_own_below h hb
theorem Pre.not_row {w : World} {base g : Nat} {v : Value} {ys : List UInt8} {xs : List W32} (h : Pre w g xs) (hr : Row w base v ys) : some g ≠ v.ownBlock := by
  intro e
  obtain ⟨cur, hb, _⟩ := h
  rcases hr.2 with ⟨rfl, _⟩ | ⟨g', cap, cur', rfl, _, hh, _⟩
  · simp [Value.ownBlock] at e
  · simp [Value.ownBlock] at e
    subst e
    rw [Blk, hh] at hb
    injection hb with hb
    injection hb with _ hb
    exact absurd hb (by decide)
theorem build8 (x0 x1 x2 x3 x4 x5 x6 x7 : Int) (W : World) : (Instr.buildSlice 81 8 #[(0, .int .u32 x0), (1, .int .u32 x1), (2, .int .u32 x2), (3, .int .u32 x3), (4, .int .u32 x4), (5, .int .u32 x5), (6, .int .u32 x6), (7, .int .u32 x7)]).run Tryz.prog W = .ok (.slice (some ⟨W.heap.size, 0, none⟩) 8 8) (W.alloc (.cells #[.int .u32 x0, .int .u32 x1, .int .u32 x2, .int .u32 x3, .int .u32 x4, .int .u32 x5, .int .u32 x6, .int .u32 x7] 82)) := by kernel_rfl
theorem wpList_build8 {ops : Array Oper} {rest : List Oper} {o : Oper} {a : Act} {w : World} {Q : Exit → Act → World → Prop} (hg : o.guard = none) (t0 t1 t2 t3 t4 t5 t6 t7 : Tmp) (ho : o.op = .buildSlice 81 8 #[(0, .tmp t0), (1, .tmp t1), (2, .tmp t2), (3, .tmp t3), (4, .tmp t4), (5, .tmp t5), (6, .tmp t6), (7, .tmp t7)])
    (x0 x1 x2 x3 x4 x5 x6 x7 : Int) (h0 : a.eval (.tmp t0) = .int .u32 x0) (h1 : a.eval (.tmp t1) = .int .u32 x1) (h2 : a.eval (.tmp t2) = .int .u32 x2) (h3 : a.eval (.tmp t3) = .int .u32 x3) (h4 : a.eval (.tmp t4) = .int .u32 x4) (h5 : a.eval (.tmp t5) = .int .u32 x5) (h6 : a.eval (.tmp t6) = .int .u32 x6) (h7 : a.eval (.tmp t7) = .int .u32 x7)
    (h : wpList Tryz.prog ops Q rest (a.put o.dst (.slice (some ⟨w.heap.size, 0, none⟩) 8 8)) (w.alloc (.cells #[.int .u32 x0, .int .u32 x1, .int .u32 x2, .int .u32 x3, .int .u32 x4, .int .u32 x5, .int .u32 x6, .int .u32 x7] 82))) : wpList Tryz.prog ops Q (o :: rest) a w := by
  refine wpList_plain hg fun K hK => ?_
  unfold Oper.wp execOp
  have e : (#[(0, Operand.tmp t0), (1, Operand.tmp t1), (2, Operand.tmp t2), (3, Operand.tmp t3), (4, Operand.tmp t4), (5, Operand.tmp t5), (6, Operand.tmp t6), (7, Operand.tmp t7)] : Array (Nat × Operand)).map (fun (i, x) => (i, a.eval x)) = #[(0, .int .u32 x0), (1, .int .u32 x1), (2, .int .u32 x2), (3, .int .u32 x3), (4, .int .u32 x4), (5, .int .u32 x5), (6, .int .u32 x6), (7, .int .u32 x7)] := by
    simp only [List.map_toArray, List.map_cons, List.map_nil, h0, h1, h2, h3, h4, h5, h6, h7]
  have hb := build8 x0 x1 x2 x3 x4 x5 x6 x7 w
  simp only [ho, Sem.run_bind, e, hb, Result.andThen_ok]
  exact hK _ _ h
set_option maxHeartbeats 40000000
theorem refSum_any (l : List UInt8) (hl : l.length < 4294967296) (w : World) : Calls Tryz.prog 11 #[.string (bs l)] w fun e w' => e = .returned (.string (bs (shaL l))) ∧ Below w.heap.size w w' := by
  have hsz := bs_size l
  go_enter Tryz.func11, Tryz.ntmps11
  go_wp2_with fail
  refine (refPrimes_any w).mono ?_
  rintro e wc ⟨pv, rfl, hP, hB⟩
  have HP := Lib.hid hP
  have HB := Lib.hid hB
  clear hP hB
  obtain ⟨A, cap, rfl, hA⟩ := HP.out.slice
  obtain ⟨pb, rfl, hb1, hb2⟩ := hA (by decide)
  have hlen : primesL.length = 64 := rfl
  rw [hlen] at HP ⊢
  clear hA
  go_wp2_with fail
  have HS := Lib.hid (RefA.start HP.out HB.out)
  obtain ⟨pv, hpv⟩ : ∃ v, v = Value.slice (some ⟨pb, 0, none⟩) 64 cap := ⟨_, rfl⟩
  have HP2 := Lib.hid (show RefA w 0 pv _ _ _ by rw [hpv]; exact HS.out)
  have Hpv := Lib.hid hpv
  clear hpv HS
  go_loopg [6, 4, 5] 64 (fun g x hv kv wr => RefR w pv g x hv kv wr)
  case atStart => exact ⟨0, by omega, rfl, HP2.out⟩
  case round =>
    obtain ⟨i, hi, rfl, hA⟩ := hrel
    have HA := Lib.hid hA
    clear hA
    cases gk with
    | zero =>
      as_aux_lemma =>
        obtain rfl : i = 64 := by omega
        obtain ⟨gh, ch, gk2, ck, rfl, rfl, hF⟩ := HA.out.fin
        have hconv := Lib.run_convert_string_bytes (P := Tryz.prog) wr 9 60 5 (bs l) Tryz.underlying9 Tryz.underlying60 Tryz.underlying5
        have HF := Lib.hid (hF.bytes l hl)
        have hwb : (Lib.bytesWorld wr 5 (bs l)).heap.size = wr.heap.size + 1 := Lib.bytesWorld_size wr 5 (bs l)
        clear hF
        obtain ⟨wb, hwbe⟩ : ∃ wb, wb = Lib.bytesWorld wr 5 (bs l) := ⟨_, rfl⟩
        rw [← hwbe] at hconv HF hwb
        obtain ⟨tv, htv⟩ : ∃ v, v = Value.slice (some ⟨wr.heap.size, 0, none⟩) (bs l).size (grownCap wr (bs l).size 0 5) := ⟨_, rfl⟩
        rw [← htv] at hconv HF
        have Hwb := Lib.hid hwb
        clear hwbe htv hwb
        have hlr : RowF wb w.heap.size tv l := HF.out.r
        have HLR := Lib.hid hlr
        clear hlr
        go_wp2_with (first
          | (at_builtin; (refine append_F (w0 := w) w.heap.size rfl (.tmp 52) (.tmp 53) rfl tv l 128 rfl rfl HF.out.r HF.out.B ?s5 ?l5 ?_); (case s5 => exact HF.out.B.size); (case l5 => omega); intro v1 w2 hR2 hB2 hk2; have HG := Lib.hid (HF.out.app hR2 hB2 hk2); clear hR2 hB2 hk2))
        have Hz := Lib.hid (show zerosFor (l.length + 1) = (120 - (l.length + 1) % 64) % 64 from rfl)
        go_loopg [7] (zerosFor (l.length + 1)) (fun g x wx => ∃ (j : Nat) (m : List UInt8), j + g = zerosFor (l.length + 1) ∧ m = l ++ [128] ++ List.replicate j 0 ∧ RefB w H0 gh gk2 x m wx)
        case atStart => exact ⟨0, l ++ [128], by omega, by simp, HG.out⟩
        case round =>
          obtain ⟨j, m, hj, hm, hA2⟩ := hrel
          have HA2 := Lib.hid hA2
          obtain ⟨gb, cb, rfl, _⟩ := hA2.r.cell
          clear hA2
          have hql : m.length = l.length + 1 + j := by rw [hm]; simp; omega
          obtain ⟨q, hq⟩ : ∃ q, q = l.length + 1 + j := ⟨_, rfl⟩
          rw [← hq] at hql
          have HQ := Lib.hid (show m.length ≤ 4294967800 by have := Hz.out; omega)
          cases gk with
          | zero =>
            as_aux_lemma =>
              have h56 : ((q : Int) % 64 != 56) = false := by
                have h1 := Hz.out
                have : (q : Int) % 64 = 56 := by omega
                rw [this]; rfl
              have Hm := Lib.hid (show m = l ++ [128] ++ List.replicate (zerosFor (l.length + 1)) 0 by rw [hm, show j = zerosFor (l.length + 1) by omega])
              have Hj := Lib.hid hj
              have Hql := Lib.hid hql
              clear hq hm hj
              rw [hql]
              have HA3 := Lib.hid (show RefB w H0 gh gk2 (.slice (some ⟨gb, 0, none⟩) q cb) m wr by rw [← hql]; exact HA2.out)
              clear hql HA2
              go_wp2_with fail
              clear h56
              go_loopg [7, 9] 8 (fun g x y wx => ∃ (i : Nat) (p : List UInt8), i + g = 8 ∧ y = .int .u64 (i : Int) ∧ p = m ++ (len8 l.length).take i ∧ RefB w H0 gh gk2 x p wx)
              case atStart => exact ⟨0, m, by omega, rfl, by simp, HA3.out⟩
              case round =>
                obtain ⟨i, p, hi, rfl, hp, hA4⟩ := hrel
                have HA4 := Lib.hid hA4
                obtain ⟨gb4, cb4, rfl, _⟩ := hA4.r.cell
                clear hA4
                have Hpl := Lib.hid (show p.length = q + i by rw [hp, List.length_append, Hql.out, List.length_take, len8_len]; omega)
                have Hq2 := Lib.hid (show q ≤ 4294967800 by rw [← Hql.out]; exact HQ.out)
                cases gk with
                | zero =>
                  as_aux_lemma =>
                    obtain rfl : i = 8 := by omega
                    have hpe : p = l ++ tailOf l.length := by
                      rw [hp, Hm.out, List.take_of_length_le (by rw [len8_len]; exact Nat.le_refl _)]
                      simp only [tailOf, List.append_assoc]
                    have Hpe := Lib.hid hpe
                    have Hp64 := Lib.hid (show p.length % 64 = 0 by rw [hpe, List.length_append]; exact tail_len _ _ rfl)
                    clear hpe hp Hm hl
                    rw [show ((8 : Nat) : Int) = 8 from rfl]
                    have Hpq := Lib.hid (show p.length ≤ 4294967900 by rw [Hpl.out]; have := Hq2.out; omega)
                    go_wp2_with fail
                    go_loopg [10] (p.length / 64) (fun g x wx => ∃ (n : Nat) (s : St), n + g = p.length / 64 ∧ x = .int .i64 ((64 * n : Nat) : Int) ∧ AbsAt p s n ∧ RefB w s gh gk2 (.slice (some ⟨gb4, 0, none⟩) p.length cb4) p wx)
                    case atStart => exact ⟨0, H0, by omega, by rw [Nat.mul_zero]; rfl, absAt_zero p, HA4.out⟩
                    case round =>
                      obtain ⟨n, s, hn, rfl, he, hA5⟩ := hrel
                      have HE := Lib.hid he
                      have HI := Lib.hid hA5
                      clear he hA5
                      have hpl2 := Hp64.out
                      cases gk with
                      | zero =>
                        as_aux_lemma =>
                          have Hfin := Lib.hid (absAt_end (l := l) HE.out Hpe.out hpl2 (show n = p.length / 64 by omega))
                          have hdf : decide (64 * n < p.length) = false := decide_eq_false (by omega)
                          have hdf2 : ¬ ((64 * n : Nat) : Int) < (p.length : Int) := by omega
                          obtain ⟨at_, hat⟩ : ∃ a, a = 64 * n := ⟨_, rfl⟩
                          rw [← hat] at hdf hdf2 ⊢
                          clear hat hpl2
                          have HBw := Lib.hid HI.out.B
                          have HH := Lib.hid HI.out.h
                          go_wp2_with fail
                          have hR0 := Row.lit wr w.heap.size [] HBw.out.size (by simp)
                          have HR0 := Lib.hid hR0
                          have HH0 := Lib.hid (HH.out.below ((Below.refl wr.heap.size wr).alloc (Nat.le_refl _) (.cells #[] 5)))
                          have HB0 := Lib.hid (HBw.out.alloc HBw.out.size (.cells #[] 5))
                          clear hR0 HI
                          go_loopg [23, 24] 8 (fun g x y wx => ∃ i : Nat, i + g = 8 ∧ y = .int .i64 (i : Int) ∧ Row wx w.heap.size x (((stL s).take i).flatMap b4) ∧ Pre wx gh (stL s) ∧ Below w.heap.size w wx)
                          case atStart => exact ⟨0, by omega, rfl, HR0.out, HH0.out, HB0.out⟩
                          case round =>
                            obtain ⟨i, hi, rfl, hR, hH, hB⟩ := hrel
                            have HR := Lib.hid hR
                            have HH1 := Lib.hid hH
                            have HB1 := Lib.hid hB
                            clear hR hH hB
                            cases gk with
                            | zero =>
                              as_aux_lemma =>
                                obtain rfl : i = 8 := by omega
                                have Ho := Lib.hid (show ((stL s).take 8).flatMap b4 = shaL l by unfold shaL; rw [Hfin.out]; rfl)
                                have hol := shaL_len l
                                rw [Ho.out] at HR
                                obtain ⟨o, ho⟩ : ∃ o, o = shaL l := ⟨_, rfl⟩
                                rw [← ho] at HR hol
                                obtain ⟨g8, cap8, rfl, hgb, hgl⟩ := HR.out.form (by omega)
                                have hst := HR.out.string 60 (by kernel_rfl)
                                rw [hol] at hst ⊢
                                have Hoo := Lib.hid ho
                                clear ho
                                go_wp2_with fail
                                go_ret
                                exact ⟨by rw [Hoo.out]; rfl, HB1.out⟩
                            | succ g =>
                              have hi8 : i < 8 := by omega
                              have HT := Lib.hid (take_b4 s i hi8)
                              have l0 := HH1.out.cell i hi8
                              obtain ⟨x, hx⟩ : ∃ x, x = at0 (stL s) i := ⟨_, rfl⟩
                              rw [← hx] at l0 HT
                              clear hx
                              go_wp2_with fail
                              refine wp_region_quiet_skip _ 23 (by kernel_rfl) (by kernel_rfl) (by decide) (by kernel_rfl) (by kernel_rfl) (by kernel_rfl) (by kernel_rfl) (by kernel_rfl) (fun _ _ _ h => h) (Or.inl ⟨by rfl, fun W => rfl⟩) ?_
                              simp only [List.take_succ_cons, List.take_zero, List.drop_succ_cons, List.drop_zero, Act.put, List.setIfInBounds_toArray, List.set_cons_zero, List.set_cons_succ]
                              repeat go_big_quiet_step (fail)
                              refine wpQuiet_nil ?_
                              intro w6 hw6
                              have hb6 : Below wr.heap.size wr w6 := by obtain ⟨m, rfl⟩ := hw6; exact below_drewN (Below.refl _ _) m
                              have HR6 := Lib.hid (Row.below9 HR.out hb6)
                              have HH6 := Lib.hid (HH1.out.below hb6)
                              have HB6 := Lib.hid (HB1.out.trans (hb6.mono HB1.out.size))
                              clear hw6 hb6 l0
                              have HX := Lib.hid (fun (W : World) => congrArg (fun c => W.alloc (.cells c 5)) (b4_cells x))
                              go_wp2_with (first
                                | (at_builtin; (refine at_list _ (HX.out _) ?_); (refine print_append_row_of (w0 := w) encB 0 w.heap.size rfl (.tmp 293) (.tmp 317) 60 5 (.int .u8 0) 1 rfl Tryz.underlying60 info5 rfl (by decide) encB_one _ (((stL s).take i).flatMap b4) (b4 x) (some ⟨w6.heap.size, 0, none⟩) 4 4 rfl rfl ((HR6.out.below8 _)) (b4_reads w6 x) ((HB6.out.alloc HB6.out.size _)) ?s11 ?l11 ?_); (case s11 => have := HB6.out.size; simp; omega); (case l11 => have := b4_len s i; omega); intro v1 w9 hR2 hB2 hg hat; have HR9 := Lib.hid hR2; have HB9 := Lib.hid hB2; have HH9 := Lib.hid (Pre.grown (HH6.out.below ((Below.refl _ _).alloc (Nat.le_refl _) _)) hg (Pre.not_row HH6.out HR6.out)); clear hR2 hB2 hg hat))
                              go_roundg g
                              case measure => omega
                              case rel => exact ⟨i + 1, by omega, by go_num, by rw [HT.out]; exact HR9.out, HH9.out, HB9.out⟩
                      | succ g =>
                        as_aux_lemma =>
                          obtain ⟨at_, hat⟩ : ∃ a, a = 64 * n := ⟨_, rfl⟩
                          have hat2 : at_ + 64 ≤ p.length := by omega
                          have Hat := Lib.hid hat
                          rw [← hat]
                          obtain ⟨bk, hbk⟩ : ∃ b, b = (p.drop at_).take 64 := ⟨_, rfl⟩
                          have hbl : bk.length = 64 := by rw [hbk]; simp; omega
                          have Hbk := Lib.hid hbk
                          have HBY := Lib.hid (fun (W : World) (h : Below wr.heap.size wr W) (i : Nat) (hi : i < 64) => byte_at (HI.out.below h).r hat2 hbk hi)
                          clear hat hbk hpl2
                          have Hpq' := Hpq.out
                          have hd1 : decide (at_ < p.length) = true := decide_eq_true (by omega)
                          go_wp2_with fail
                          have Hw0 := Lib.hid (RowE.lit (enc := B.u32) (e := 82) wr wr.heap.size [] (Nat.le_refl _) (by simp))
                          have HB0 := Lib.hid ((Below.refl wr.heap.size wr).alloc (Nat.le_refl _) (.cells #[] 82))
                          go_loopg [11, 12] 16 (fun g x y wx => ∃ i : Nat, i + g = 16 ∧ y = .int .i64 (i : Int) ∧ RowE B.u32 82 wx wr.heap.size x (sched bk i) ∧ Below wr.heap.size wr wx)
                          case atStart => exact ⟨0, by omega, rfl, Hw0.out, HB0.out⟩
                          case round =>
                            obtain ⟨i, hi, rfl, hR, hB⟩ := hrel
                            have HR := Lib.hid hR
                            have HBx := Lib.hid hB
                            clear hR hB
                            cases gk with
                            | zero =>
                              as_aux_lemma =>
                                obtain rfl : i = 16 := by omega
                                rw [show ((16 : Nat) : Int) = 16 from rfl]
                                go_wp2_with fail
                                go_loopg [11, 15] 48 (fun g x y wx => ∃ i : Nat, i + g = 64 ∧ 16 ≤ i ∧ y = .int .i64 (i : Int) ∧ RowE B.u32 82 wx _ x (sched bk i) ∧ Below _ _ wx)
                                case atStart => exact ⟨16, by omega, by omega, rfl, HR.out, HBx.out⟩
                                case round =>
                                  obtain ⟨i, hi, hi16, rfl, hR, hB⟩ := hrel
                                  have HBy := Lib.hid hB
                                  obtain ⟨gw, cw, rfl, hgw, hPw⟩ := RowE.pre hR (by rw [sched_len]; omega)
                                  rw [sched_len] at hR ⊢
                                  have HR := Lib.hid hR
                                  have HPw := Lib.hid hPw
                                  clear hR hB hPw
                                  cases gk with
                                  | zero =>
                                    as_aux_lemma =>
                                      obtain rfl : i = 64 := by omega
                                      have Hsl := Lib.hid (sched_len bk 64)
                                      obtain ⟨ws, hws⟩ : ∃ ws, ws = sched bk 64 := ⟨_, rfl⟩
                                      rw [← hws] at HPw Hsl
                                      have Hws := Lib.hid hws
                                      clear hws HR
                                      rw [show ((64 : Nat) : Int) = 64 from rfl]
                                      have HI2 := Lib.hid (HI.out.below HBy.out)
                                      have Hal := Lib.hid (fun (o : Obj) => HBy.out.alloc HBy.out.size o)
                                      go_wp2_with (first
                                        | (at_builtin; (refine print_append_row_of B.u32 0 wr.heap.size rfl (.tmp 157) (.tmp 158) 81 82 (.int .u32 0) 4 rfl Tryz.underlying81 info82 rfl (by decide) (fun _ => rfl) _ ([] : List W32) (stL s) (some ⟨gh, 0, none⟩) 8 ch rfl rfl (RowE.lit (enc := B.u32) (e := 82) wr wr.heap.size [] (Nat.le_refl _) (by simp)) ((HI2.out.h.below ((Below.refl _ _).alloc (Nat.le_refl _) _)).reads rfl) ((Below.refl wr.heap.size wr).alloc (Nat.le_refl _) _) ?s10 ?l10 ?_); (case s10 => simp); (case l10 => simp); intro v7 w8 hR2 hB2 hg2 hat2; have HV0 := Lib.hid (show RowE B.u32 82 w8 wr.heap.size v7 (stL s) from hR2); have HB8 := Lib.hid hB2; clear hR2 hB2 hg2 hat2))
                                      obtain ⟨gv, cv, rfl, hgv, hPv⟩ := RowE.pre HV0.out (show 0 < 8 by decide)
                                      rw [show (stL s).length = 8 from rfl]
                                      have HPv := Lib.hid hPv
                                      have HPw8 := Lib.hid (HPw.out.below HB8.out)
                                      have HI8 := Lib.hid (HI2.out.below HB8.out)
                                      clear hPv HV0 HPw Hal
                                      go_loopg [18, 19] 64 (fun g x y wx => ∃ (k gv cv : Nat), k + g = 64 ∧ y = .int .i64 (k : Int) ∧ x = .slice (some ⟨gv, 0, none⟩) 8 cv ∧ Pre wx gv (stL (rnds s ws k)) ∧ gv ≠ gh ∧ Below w8.heap.size w8 wx)
                                      case atStart => exact ⟨0, gv, cv, by omega, rfl, rfl, HPv.out, by have := HI2.out.h.lt; omega, Below.refl _ _⟩
                                      case round =>
                                        obtain ⟨k, gv, cv, hk, rfl, rfl, hP, hne, hB⟩ := hrel
                                        have HP := Lib.hid hP
                                        have HB9 := Lib.hid hB
                                        clear hP hB
                                        cases gk with
                                        | zero =>
                                          as_aux_lemma =>
                                            obtain rfl : k = 64 := by omega
                                            rw [show ((64 : Nat) : Int) = 64 from rfl]
                                            have Hmix := Lib.hid (show s.add (rnds s ws 64) = mix s bk by rw [Hws.out]; rfl)
                                            obtain ⟨t, ht⟩ : ∃ t, t = rnds s ws 64 := ⟨_, rfl⟩
                                            rw [← ht] at HP Hmix
                                            clear ht
                                            have HI9 := Lib.hid (HI8.out.below HB9.out)
                                            go_wp2_with fail
                                            go_loopg [22] 8 (fun g y wx => ∃ i : Nat, i + g = 8 ∧ y = .int .i64 (i : Int) ∧ RefD w s t gh gk2 gv (.slice (some ⟨gb4, 0, none⟩) p.length cb4) p i wx)
                                            case atStart => exact ⟨0, by omega, rfl, ⟨HI9.out.h, HP.out, HI9.out.k, HI9.out.r, HI9.out.ne, hne, HI9.out.lh, HI9.out.lk, HI9.out.B⟩⟩
                                            case round =>
                                              obtain ⟨i, hi, rfl, hD⟩ := hrel
                                              have HD := Lib.hid hD
                                              clear hD
                                              cases gk with
                                              | zero =>
                                                obtain rfl : i = 8 := by omega
                                                go_wp2_with fail
                                                go_roundg g
                                                case measure => omega
                                                case rel => exact ⟨n + 1, mix s bk, by omega, by have := Hat.out; go_num, absAt_succ HE.out Hat.out Hbk.out hat2, by rw [← Hmix.out]; exact HD.out.fin⟩
                                              | succ g16 =>
                                                have hi8 : i < 8 := by omega
                                                have l0 := HD.out.s0 i hi8
                                                have l1 := HD.out.v.cell i hi8
                                                obtain ⟨x, hx⟩ : ∃ x, x = at0 (stL s) i := ⟨_, rfl⟩
                                                obtain ⟨y, hy⟩ : ∃ y, y = at0 (stL t) i := ⟨_, rfl⟩
                                                rw [← hx] at l0
                                                rw [← hy] at l1
                                                have Hx := Lib.hid hx
                                                have Hy := Lib.hid hy
                                                clear hx hy
                                                go_wp2_with fail
                                                refine wp_region_quiet_tail 10 (by kernel_rfl) (by kernel_rfl) ?_
                                                simp only [List.take_succ_cons, List.take_zero, List.drop_succ_cons, List.drop_zero]
                                                repeat go_big_quiet_step (fail)
                                                refine wpQuiet_nil ?_
                                                intro w6 hw6
                                                have hb6 : Below wr.heap.size wr w6 := by obtain ⟨m, rfl⟩ := hw6; exact below_drewN (Below.refl _ _) m
                                                have HD6 := Lib.hid (HD.out.below hb6)
                                                have f0 := HD6.out.h.free i
                                                have l2 := HD6.out.s0 i hi8
                                                clear hw6 hb6 l0 l1
                                                go_wp2_with fail
                                                go_roundg g16
                                                case measure => omega
                                                case rel => exact ⟨i + 1, by omega, by go_num, by rw [sum2, Hx.out, Hy.out]; exact HD6.out.step hi8⟩
                                        | succ g =>
                                          have hlt : k < 64 := by omega
                                          have HS := Lib.hid (show rnds s ws (k + 1) = rnd (rnds s ws k) (at0 kL k) (at0 ws k) from rfl)
                                          obtain ⟨t, ht⟩ : ∃ t, t = rnds s ws k := ⟨_, rfl⟩
                                          rw [← ht] at HP HS
                                          obtain ⟨kk, hkk⟩ : ∃ x, x = at0 kL k := ⟨_, rfl⟩
                                          obtain ⟨ww, hww⟩ : ∃ x, x = at0 ws k := ⟨_, rfl⟩
                                          rw [← hkk, ← hww] at HS
                                          have HK := Lib.hid (fun (W : World) (h : Below wr.heap.size wr W) => (show W.cell? ⟨gk2, k, none⟩ = some (.int .u32 (kk.toNat : Int)) by rw [hkk]; exact ((HI8.out.below HB9.out).below h).k.cell k (by rw [kL_len]; exact hlt)))
                                          have HW := Lib.hid (fun (W : World) (h : Below wr.heap.size wr W) => (show W.cell? ⟨gw, k, none⟩ = some (.int .u32 (ww.toNat : Int)) by rw [hww]; exact ((HPw8.out.below HB9.out).below h).cell k (by rw [Hsl.out]; exact hlt)))
                                          clear ht hkk hww
                                          have v4 : wr.cell? ⟨gv, 4, none⟩ = some (.int .u32 (t.e.toNat : Int)) := HP.out.cell 4 (show 4 < 8 by decide)
                                          have v5 : wr.cell? ⟨gv, 5, none⟩ = some (.int .u32 (t.f.toNat : Int)) := HP.out.cell 5 (show 5 < 8 by decide)
                                          have v6 : wr.cell? ⟨gv, 6, none⟩ = some (.int .u32 (t.g.toNat : Int)) := HP.out.cell 6 (show 6 < 8 by decide)
                                          have v7 : wr.cell? ⟨gv, 7, none⟩ = some (.int .u32 (t.h.toNat : Int)) := HP.out.cell 7 (show 7 < 8 by decide)
                                          have vk := HK.out wr (Below.refl _ _)
                                          have vw := HW.out wr (Below.refl _ _)
                                          go_wp2_with fail
                                          refine wp_region_quiet_lit (by kernel_rfl) (by kernel_rfl) ?_
                                          repeat go_big_quiet_step (fail)
                                          go_big_quiet_step (exact Calls.quiet_of_same (rR t.e 6 6 rfl (by decide) (by decide) _))
                                          repeat go_big_quiet_step (fail)
                                          go_big_quiet_step (exact Calls.quiet_of_same (rR t.e 11 11 rfl (by decide) (by decide) _))
                                          repeat go_big_quiet_step (fail)
                                          go_big_quiet_step (exact Calls.quiet_of_same (rR t.e 25 25 rfl (by decide) (by decide) _))
                                          repeat go_big_quiet_step (fail)
                                          refine wpQuiet_nil ?_
                                          intro w5 hw5
                                          have hb5 : Below wr.heap.size wr w5 := by obtain ⟨m, rfl⟩ := hw5; exact below_drewN (Below.refl _ _) m
                                          have HP5 := Lib.hid (HP.out.below hb5)
                                          have HB5 := Lib.hid hb5
                                          go_wp2_with fail
                                          rw [oneR_val t kk ww]
                                          obtain ⟨on, hon⟩ : ∃ x, x = oneOf t kk ww := ⟨_, rfl⟩
                                          rw [← hon]
                                          have Hon := Lib.hid hon
                                          clear hon hw5 hb5 v4 v5 v6 v7 vk vw
                                          have v0 : w5.cell? ⟨gv, 0, none⟩ = some (.int .u32 (t.a.toNat : Int)) := HP5.out.cell 0 (show 0 < 8 by decide)
                                          have v1 : w5.cell? ⟨gv, 1, none⟩ = some (.int .u32 (t.b.toNat : Int)) := HP5.out.cell 1 (show 1 < 8 by decide)
                                          have v2 : w5.cell? ⟨gv, 2, none⟩ = some (.int .u32 (t.c.toNat : Int)) := HP5.out.cell 2 (show 2 < 8 by decide)
                                          refine wp_region_quiet_lit (by kernel_rfl) (by kernel_rfl) ?_
                                          repeat go_big_quiet_step (fail)
                                          go_big_quiet_step (exact Calls.quiet_of_same (rR t.a 2 2 rfl (by decide) (by decide) _))
                                          repeat go_big_quiet_step (fail)
                                          go_big_quiet_step (exact Calls.quiet_of_same (rR t.a 13 13 rfl (by decide) (by decide) _))
                                          repeat go_big_quiet_step (fail)
                                          go_big_quiet_step (exact Calls.quiet_of_same (rR t.a 22 22 rfl (by decide) (by decide) _))
                                          repeat go_big_quiet_step (fail)
                                          refine wpQuiet_nil ?_
                                          intro w6 hw6
                                          have hb6 : Below w5.heap.size w5 w6 := by obtain ⟨m, rfl⟩ := hw6; exact below_drewN (Below.refl _ _) m
                                          have HP6 := Lib.hid (HP5.out.below hb6)
                                          have HB6 := Lib.hid (HB5.out.trans (hb6.mono HB5.out.size))
                                          go_wp2_with fail
                                          rw [twoR_val t]
                                          obtain ⟨tw, htw⟩ : ∃ x, x = twoOf t := ⟨_, rfl⟩
                                          rw [← htw]
                                          have Htw := Lib.hid htw
                                          clear htw hw6 hb6 v0 v1 v2
                                          have x0 : w6.cell? ⟨gv, 0, none⟩ = some (.int .u32 (t.a.toNat : Int)) := HP6.out.cell 0 (show 0 < 8 by decide)
                                          have x1 : w6.cell? ⟨gv, 1, none⟩ = some (.int .u32 (t.b.toNat : Int)) := HP6.out.cell 1 (show 1 < 8 by decide)
                                          have x2 : w6.cell? ⟨gv, 2, none⟩ = some (.int .u32 (t.c.toNat : Int)) := HP6.out.cell 2 (show 2 < 8 by decide)
                                          have x3 : w6.cell? ⟨gv, 3, none⟩ = some (.int .u32 (t.d.toNat : Int)) := HP6.out.cell 3 (show 3 < 8 by decide)
                                          have x4 : w6.cell? ⟨gv, 4, none⟩ = some (.int .u32 (t.e.toNat : Int)) := HP6.out.cell 4 (show 4 < 8 by decide)
                                          have x5 : w6.cell? ⟨gv, 5, none⟩ = some (.int .u32 (t.f.toNat : Int)) := HP6.out.cell 5 (show 5 < 8 by decide)
                                          have x6 : w6.cell? ⟨gv, 6, none⟩ = some (.int .u32 (t.g.toNat : Int)) := HP6.out.cell 6 (show 6 < 8 by decide)
                                          refine wp_region_quiet_tail 26 (by kernel_rfl) (by kernel_rfl) ?_
                                          simp only [List.take_succ_cons, List.take_zero, List.drop_succ_cons, List.drop_zero]
                                          repeat go_big_quiet_step (fail)
                                          refine wpQuiet_nil ?_
                                          intro w7 hw7
                                          have hb7 : Below w6.heap.size w6 w7 := by obtain ⟨m, rfl⟩ := hw7; exact below_drewN (Below.refl _ _) m
                                          have HB7 := Lib.hid (HB9.out.trans ((HB6.out.trans (hb7.mono HB6.out.size)).mono HB9.out.size))
                                          clear hw7 hb7 x0 x1 x2 x3 x4 x5 x6
                                          refine wpList_build8 rfl 249 252 255 258 263 266 269 272 rfl _ _ _ _ _ _ _ _ rfl rfl rfl rfl rfl rfl rfl rfl ?_
                                          go_wp2_with fail
                                          go_roundg g
                                          case measure => omega
                                          case rel => exact ⟨k + 1, w7.heap.size, 8, by omega, by go_num, rfl, by rw [HS.out]; unfold rnd; rw [← Hon.out, ← Htw.out]; exact pre_new w7 t on tw, by have h1 := HI8.out.h.lt; have h2 := HB7.out.size; omega, HB7.out.alloc HB7.out.size _⟩
                                  | succ g =>
                                    have hi64 : i < 64 := by omega
                                    have n1 : 0 ≤ (i : Int) - 15 := by omega
                                    have n2 : (i : Int) - 15 < i := by omega
                                    have n3 : 0 ≤ (i : Int) - 2 := by omega
                                    have n4 : (i : Int) - 2 < i := by omega
                                    have n5 : 0 ≤ (i : Int) - 16 := by omega
                                    have n6 : (i : Int) - 16 < i := by omega
                                    have n7 : 0 ≤ (i : Int) - 7 := by omega
                                    have n8 : (i : Int) - 7 < i := by omega
                                    have m1 : ((i : Int) - 15).toNat = i - 15 := by omega
                                    have m2 : ((i : Int) - 2).toNat = i - 2 := by omega
                                    have m3 : ((i : Int) - 16).toNat = i - 16 := by omega
                                    have m4 : ((i : Int) - 7).toNat = i - 7 := by omega
                                    have i1 : IntKind.i64.wrap ((i : Int) - 15) = (i : Int) - 15 := IntWalk.i64_in _ (by omega)
                                    have i2 : IntKind.i64.wrap ((i : Int) - 2) = (i : Int) - 2 := IntWalk.i64_in _ (by omega)
                                    have i3 : IntKind.i64.wrap ((i : Int) - 16) = (i : Int) - 16 := IntWalk.i64_in _ (by omega)
                                    have i4 : IntKind.i64.wrap ((i : Int) - 7) = (i : Int) - 7 := IntWalk.i64_in _ (by omega)
                                    have c1 := HPw.out.cell (i - 15) (by rw [sched_len]; omega)
                                    have c2 := HPw.out.cell (i - 2) (by rw [sched_len]; omega)
                                    have HS := Lib.hid (show sched bk (i + 1) = sched bk i ++ [wNext (sched bk i) i] by rw [sched, if_neg (by omega)])
                                    unfold wNext at HS
                                    obtain ⟨x, hx⟩ : ∃ x, x = at0 (sched bk i) (i - 15) := ⟨_, rfl⟩
                                    obtain ⟨y, hy⟩ : ∃ y, y = at0 (sched bk i) (i - 2) := ⟨_, rfl⟩
                                    rw [← hx] at c1 HS
                                    rw [← hy] at c2 HS
                                    clear hx hy
                                    go_wp2_with fail
                                    go_quiet (fail)
                                    obtain ⟨w2, hw2⟩ : ∃ w2, w2 = wr.drewN nq := ⟨_, rfl⟩
                                    have hbq : Below wr.heap.size wr w2 := by rw [hw2]; exact below_drewN (Below.refl _ _) nq
                                    have HPw2 := Lib.hid (HPw.out.below hbq)
                                    have HR2 := Lib.hid (HR.out.below hbq)
                                    have HB2 := Lib.hid (HBy.out.trans (hbq.mono HBy.out.size))
                                    rw [← hw2]
                                    have c3 := HPw2.out.cell (i - 16) (by rw [sched_len]; omega)
                                    have c4 := HPw2.out.cell (i - 7) (by rw [sched_len]; omega)
                                    obtain ⟨u, hu⟩ : ∃ u, u = at0 (sched bk i) (i - 16) := ⟨_, rfl⟩
                                    obtain ⟨v, hv⟩ : ∃ v, v = at0 (sched bk i) (i - 7) := ⟨_, rfl⟩
                                    rw [← hu] at c3 HS
                                    rw [← hv] at c4 HS
                                    clear hu hv hw2 c1 c2 hbq
                                    go_wp2_with fail
                                    refine wp_region_quiet_skip _ 29 (by kernel_rfl) (by kernel_rfl) (by decide) (by kernel_rfl) (by kernel_rfl) (by kernel_rfl) (by kernel_rfl) (by kernel_rfl) (fun _ _ _ h => h) (Or.inl ⟨by rfl, fun W => rfl⟩) ?_
                                    simp only [List.take_succ_cons, List.take_zero, List.drop_succ_cons, List.drop_zero, Act.put, List.setIfInBounds_toArray, List.set_cons_zero, List.set_cons_succ]
                                    repeat go_big_quiet_step (fail)
                                    go_big_quiet_step (exact Calls.quiet_of_same (rR x 7 7 rfl (by decide) (by decide) _))
                                    repeat go_big_quiet_step (fail)
                                    go_big_quiet_step (exact Calls.quiet_of_same (rR x 18 18 rfl (by decide) (by decide) _))
                                    repeat go_big_quiet_step (fail)
                                    go_big_quiet_step (exact Calls.quiet_of_same (rR y 17 17 rfl (by decide) (by decide) _))
                                    repeat go_big_quiet_step (fail)
                                    go_big_quiet_step (exact Calls.quiet_of_same (rR y 19 19 rfl (by decide) (by decide) _))
                                    repeat go_big_quiet_step (fail)
                                    refine wpQuiet_nil ?_
                                    intro w3 hw3
                                    have hb3 : Below w2.heap.size w2 w3 := by obtain ⟨m, rfl⟩ := hw3; exact below_drewN (Below.refl _ _) m
                                    have HR3 := Lib.hid (HR2.out.below hb3)
                                    have HB3 := Lib.hid (HB2.out.trans (hb3.mono HB2.out.size))
                                    have HV := Lib.hid (fun (W : World) => congrArg (fun z => W.alloc (.cells #[Value.int .u32 z] 82)) (next_val u x v y))
                                    obtain ⟨z, hz⟩ : ∃ z, z = u + (rr x 7 ^^^ rr x 18 ^^^ x >>> 3) + v + (rr y 17 ^^^ rr y 19 ^^^ y >>> 10) := ⟨_, rfl⟩
                                    rw [← hz] at HS HV
                                    clear hw3 hb3 hz c3 c4
                                    go_wp2_with (first
                                      | (at_builtin; (refine at_list _ (HV.out _) ?_); (refine print_append_of B.u32 _ rfl (.tmp 125) (.tmp 155) 81 82 (.int .u32 0) 4 rfl Tryz.underlying81 info82 rfl (by decide) _ (sched bk i) z rfl rfl rfl HR3.out HB3.out ?s8 ?l8 ?_); (case s8 => exact HB3.out.size); (case l8 => rw [sched_len]; omega); intro v5 w6 hR2 hB2 hg2 hat2; have HRn := Lib.hid (show RowE B.u32 82 w6 _ v5 (sched bk i ++ [z]) from hR2); have HBn := Lib.hid hB2; clear hR2 hB2 hg2 hat2))
                                    go_roundg g
                                    case measure => omega
                                    case rel => exact ⟨i + 1, by omega, by omega, by go_num, by rw [HS.out]; exact HRn.out, HBn.out⟩
                            | succ g =>
                              have hi16 : i < 16 := by omega
                              have hd2 : decide ((i : Int) < 16) = true := decide_eq_true (by omega)
                              go_wp2_with fail
                              go_loopg [13, 14] 4 (fun g x y wx => ∃ j : Nat, j + g = 4 ∧ y = .int .i64 (j : Int) ∧ x = .int .u32 ((wpart bk i j).toNat : Int) ∧ wx = wr)
                              case atStart => exact ⟨0, by omega, rfl, rfl, rfl⟩
                              case round =>
                                obtain ⟨j, hj, rfl, rfl, rfl⟩ := hrel
                                cases gk with
                                | zero =>
                                  as_aux_lemma =>
                                    obtain rfl : j = 4 := by omega
                                    have HS := Lib.hid (show sched bk (i + 1) = sched bk i ++ [wpart bk i 4] by rw [sched, if_pos hi16, wpart_4])
                                    obtain ⟨z, hz⟩ : ∃ z, z = wpart bk i 4 := ⟨_, rfl⟩
                                    rw [← hz] at HS ⊢
                                    clear hz
                                    rw [show ((4 : Nat) : Int) = 4 from rfl]
                                    go_wp2_with (first
                                      | (at_builtin; (refine print_append_of B.u32 _ rfl (.tmp 107) (.tmp 109) 81 82 (.int .u32 0) 4 rfl Tryz.underlying81 info82 rfl (by decide) _ (sched bk i) z rfl rfl rfl HR.out HBx.out ?s9 ?l9 ?_); (case s9 => exact HBx.out.size); (case l9 => rw [sched_len]; omega); intro v5 w6 hR2 hB2 hg2 hat2; have HRn := Lib.hid (show RowE B.u32 82 w6 _ v5 (sched bk i ++ [z]) from hR2); have HBn := Lib.hid hB2; clear hR2 hB2 hg2 hat2))
                                    go_roundg g
                                    case measure => omega
                                    case rel => exact ⟨i + 1, by omega, by go_num, by rw [HS.out]; exact HRn.out, HBn.out⟩
                                | succ g3 =>
                                  have hc := HBY.out _ HBx.out (4 * i + j) (by omega)
                                  rw [← Nat.add_assoc] at hc
                                  have HX := Lib.hid (show wpart bk i (j + 1) = wpart bk i j * 256 + BitVec.ofNat 32 (bk.getD (4 * i + j) 0).toNat from rfl)
                                  obtain ⟨x, hx⟩ : ∃ x, x = wpart bk i j := ⟨_, rfl⟩
                                  obtain ⟨y, hy⟩ : ∃ y, y = bk.getD (4 * i + j) 0 := ⟨_, rfl⟩
                                  rw [← hx] at HX ⊢
                                  rw [← hy] at HX hc
                                  have HY := Lib.hid y.toNat_lt
                                  clear hx hy
                                  have n1 : (at_ : Int) + 4 * (i : Int) + (j : Int) < (p.length : Int) := by omega
                                  have n2 : ((at_ : Int) + 4 * (i : Int) + (j : Int)).toNat = at_ + 4 * i + j := by omega
                                  go_wp2_with fail
                                  go_roundg g3
                                  case measure => omega
                                  case rel => exact ⟨j + 1, by omega, by go_num, congrArg (Value.int .u32) (by have h1 := HY.out; rw [HX.out]; simp only [BitVec.toNat_add, BitVec.toNat_mul, BitVec.toNat_ofNat, show (256 : W32).toNat = 256 from rfl]; omega), rfl⟩
                | succ g =>
                  as_aux_lemma =>
                    have hi8 : i < 8 := by omega
                    obtain ⟨c, hc⟩ : ∃ c : Nat, c = 56 - 8 * i := ⟨_, rfl⟩
                    have hc2 : (56 : Int) - 8 * (i : Int) = (c : Int) := by omega
                    have hc3 : c ≤ 56 := by omega
                    have Hc := Lib.hid hc
                    have hv := byteAt_val l.length i c hl hc
                    have HT := Lib.hid (len8_succ l.length i hi8)
                    have HP := Lib.hid hp
                    obtain ⟨y, hy⟩ : ∃ y, y = byteAt l.length i := ⟨_, rfl⟩
                    rw [← hy] at hv HT
                    have HX := Lib.hid (fun (W : World) => congrArg (fun v => W.alloc (.cells #[v] 5)) hv.symm)
                    clear hc hv hy hp
                    go_wp2_with (first
                      | (at_builtin; (refine at_list _ (HX.out _) ?_); (refine append_F (w0 := w) w.heap.size rfl (.tmp 70) (.tmp 77) rfl _ p y rfl rfl HA4.out.r HA4.out.B ?s7 ?l7 ?_); (case s7 => exact HA4.out.B.size); (case l7 => have h1 := Hpl.out; have h2 := Hq2.out; omega); intro v5 w6 hR2 hB2 hk2; have HG6 := Lib.hid (HA4.out.app hR2 hB2 hk2); clear hR2 hB2 hk2))
                    go_roundg g
                    case measure => omega
                    case rel => exact ⟨i + 1, p ++ [y], by omega, by go_num, by rw [HT.out, ← List.append_assoc, ← HP.out], HG6.out⟩
          | succ g =>
            as_aux_lemma =>
              have h56 : ((q : Int) % 64 != 56) = true := by
                have h1 := Hz.out
                have : (q : Int) % 64 ≠ 56 := by omega
                exact bne_iff_ne.2 this
              have Hm := Lib.hid (show m ++ [0] = l ++ [128] ++ List.replicate (j + 1) 0 by rw [hm, List.replicate_succ', List.append_assoc])
              rw [hql]
              have HA3 := Lib.hid (show RefB w H0 gh gk2 (.slice (some ⟨gb, 0, none⟩) q cb) m wr by rw [← hql]; exact HA2.out)
              clear hq hm hql HA2
              go_wp2_with (first
                | (at_builtin; (refine append_F (w0 := w) w.heap.size rfl (.tmp 59) (.tmp 60) rfl _ m 0 rfl rfl HA3.out.r HA3.out.B ?s6 ?l6 ?_); (case s6 => exact HA3.out.B.size); (case l6 => have := HQ.out; omega); intro v5 w6 hR2 hB2 hk2; have HG6 := Lib.hid (HA3.out.app hR2 hB2 hk2); clear hR2 hB2 hk2))
              go_roundg g
              case measure => omega
              case rel => exact ⟨j + 1, m ++ [0], by omega, Hm.out, HG6.out⟩
    | succ g =>
      as_aux_lemma =>
        have hi64 : i < 64 := by omega
        have hkl : i < primesL.length := by rw [hlen]; exact hi64
        have HTS := Lib.hid (take_snoc i hkl)
        obtain ⟨p, hpe⟩ : ∃ p, p = primesL[i] := ⟨_, rfl⟩
        rw [← hpe] at HTS
        have Hpe := Lib.hid hpe
        clear hpe
        have hcell := p_cell HA.out.p Hpv.out i hkl Hpe.out
        by_cases h8 : i < 8
        · as_aux_lemma =>
            go_wp2_with fail
            refine (root_any p 2 2 (.inl ⟨rfl, rfl⟩) wr).mono ?_
            rintro e w1 ⟨rfl, hB1⟩
            have HA1 := Lib.hid (HA.out.below hB1)
            clear hB1
            rw [show BitVec.ofNat 32 (rootN p 2 37 0) = rb 2 p from rfl]
            unfold B.u32
            go_wp2_with (first
              | (at_builtin; (refine print_append_of (w0 := w) B.u32 w.heap.size rfl (.tmp 34) (.tmp 40) 81 82 (.int .u32 0) 4 rfl Tryz.underlying81 info82 rfl (by decide) _ ((primesL.take (min i 8)).map (rb 2)) (rb 2 p) rfl rfl rfl HA1.out.h HA1.out.B ?s1 ?l1 ?_); (case s1 => exact HA1.out.B.size); (case l1 => simp; omega); intro v1 w2 hR2 hB2 hg hat; have HH := Lib.hid (HA1.out.putH h8 HTS.out hR2 hB2 hg hat); have hcell2 := p_cell HH.out.p Hpv.out i hkl Hpe.out; clear hR2 hB2 hg hat))
            refine (root_any p 3 3 (.inr ⟨rfl, rfl⟩) _).mono ?_
            rintro e w3 ⟨rfl, hB3⟩
            have HH2 := Lib.hid (HH.out.below hB3)
            clear hB3
            rw [show BitVec.ofNat 32 (rootN p 3 37 0) = rb 3 p from rfl]
            unfold B.u32
            go_wp2_with (first
              | (at_builtin; (refine print_append_of (w0 := w) B.u32 w.heap.size rfl (.tmp 42) (.tmp 48) 81 82 (.int .u32 0) 4 rfl Tryz.underlying81 info82 rfl (by decide) _ ((primesL.take i).map (rb 3)) (rb 3 p) rfl rfl rfl HH2.out.k HH2.out.B ?s2 ?l2 ?_); (case s2 => exact HH2.out.B.size); (case l2 => simp; omega); intro v3 w5 hR3 hB3 hg3 hat3; have HA4 := Lib.hid (HH2.out.putK HTS.out hR3 hB3 hg3 hat3); clear hR3 hB3 hg3 hat3))
            go_roundg g
            case measure => omega
            case rel => exact ⟨i + 1, by omega, by go_num, HA4.out⟩
        · as_aux_lemma =>
            have HH := Lib.hid (HA.out.skip (by omega))
            go_wp2_with fail
            refine (root_any p 3 3 (.inr ⟨rfl, rfl⟩) wr).mono ?_
            rintro e w3 ⟨rfl, hB3⟩
            have HH2 := Lib.hid (HH.out.below hB3)
            clear hB3
            rw [show BitVec.ofNat 32 (rootN p 3 37 0) = rb 3 p from rfl]
            unfold B.u32
            go_wp2_with (first
              | (at_builtin; (refine print_append_of (w0 := w) B.u32 w.heap.size rfl (.tmp 42) (.tmp 48) 81 82 (.int .u32 0) 4 rfl Tryz.underlying81 info82 rfl (by decide) _ ((primesL.take i).map (rb 3)) (rb 3 p) rfl rfl rfl HH2.out.k HH2.out.B ?s3 ?l3 ?_); (case s3 => exact HH2.out.B.size); (case l3 => simp; omega); intro v3 w5 hR3 hB3 hg3 hat3; have HA4 := Lib.hid (HH2.out.putK HTS.out hR3 hB3 hg3 hat3); clear hR3 hB3 hg3 hat3))
            go_roundg g
            case measure => omega
            case rel => exact ⟨i + 1, by omega, by go_num, HA4.out⟩
end Go.Proofs.YticnmogeknlmeaaGreatDoor.B
