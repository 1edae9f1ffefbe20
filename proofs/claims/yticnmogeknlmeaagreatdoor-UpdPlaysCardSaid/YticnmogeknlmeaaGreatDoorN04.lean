/- Helper: the numbers of the digest, walked. the digest's mixing, plainly. No condition. -/
import Derived.Test.YticnmogeknlmeaaGreatDoorN03
import Derived.Deep.WholeRow
import Derived.Deep.MidRow
import Derived.Deep.RegionHeld
import Derived.Test.YticnmogeknlmeaaGreatDoorN02
namespace Go.Proofs.YticnmogeknlmeaaGreatDoor.B
open Go.RowKit Go.Proofs.YticnmogeknlmeaaGreatDoorW.PrintWords
set_option maxRecDepth 100000
set_option maxHeartbeats 1600000
theorem Blk.stc {w : World} {g : Nat} {cs old : Array Value} {t : TypeId} (h : Blk w g old t) (ho : old.size = cs.size) (h1 : cs.all (·.oneCell') = true) : (storeCells ⟨g, 0, none⟩ cs.toList 0).run Tryz.prog w = .ok () (w.setRow g cs) :=
  run_storeCells_from (P := Tryz.prog) g t cs.toList 0 old w h (by simp; omega) (fun v hv => (Array.all_eq_true_iff_forall_mem.1 h1) v (by simpa using hv))
/-- An array of words: these, then zeros. -/
def arrU (n : Nat) (xs : List (BitVec 32)) : Array Value := (xs.map u32 ++ List.replicate (n - xs.length) (Value.int .u32 0)).toArray
theorem arrU_size {n : Nat} {xs : List (BitVec 32)} (h : xs.length ≤ n) : (arrU n xs).size = n := by simp [arrU]; omega
theorem arrU_set {n : Nat} {xs : List (BitVec 32)} (h : xs.length < n) (x : BitVec 32) (i : Nat) (hi : i = xs.length) : (arrU n xs).setIfInBounds i (u32 x) = arrU n (xs ++ [x]) := by
  subst hi
  obtain ⟨m, hm⟩ : ∃ m, n - xs.length = m + 1 := ⟨n - xs.length - 1, by omega⟩
  have hm2 : n - (xs.length + 1) = m := by omega
  simp [arrU, hm, hm2, List.replicate_succ]
theorem primes_le : ∀ p ∈ primesL, p ≤ 400 := by decide
theorem take_snoc (k : Nat) (h : k < primesL.length) : primesL.take (k + 1) = primesL.take k ++ [primesL[k]'h] := List.take_succ_eq_append_getElem h
theorem arrU_at {n : Nat} {xs : List (BitVec 32)} (h : xs.length ≤ n) (k : Nat) (hk : k < n) : ∃ v, (arrU n xs)[k]? = some v := by
  have := arrU_size h
  exact ⟨(arrU n xs)[k]'(by omega), Array.getElem?_eq_getElem (by omega)⟩
theorem Blk.range {w : World} {g : Nat} {cs : Array Value} {t : TypeId} (h : Blk w g cs t) : w.rangeAt g 0 cs.toList := by
  intro j v hv
  rw [Nat.zero_add, h.cell j]
  simpa using hv
theorem Blk.row {w : World} {g : Nat} {old : Array Value} {t : TypeId} (h : Blk w g old t) (cs : Array Value) : Blk (w.setRow g cs) g cs t := setRow_heap w g old cs t (0, 0) h
theorem Blk.rowFar {w : World} {g g' : Nat} {cs : Array Value} {t : TypeId} (h : Blk w g' cs t) (hne : g' ≠ g) (xs : Array Value) : Blk (w.setRow g xs) g' cs t := (setRow_other w g g' xs hne).trans h
theorem below_setRow {B : Nat} {w w' : World} (h : Below B w w') {g : Nat} (hg : B ≤ g) (cs : Array Value) : Below B w (w'.setRow g cs) :=
  ⟨h.os, h.tape, h.output, by rw [setRow_size]; exact h.size, fun i hi => (setRow_other w' g i cs (by omega)).trans (h.block i hi)⟩
theorem arrU_one (n : Nat) (xs : List (BitVec 32)) : (arrU n xs).all (·.oneCell') = true := by
  simp only [arrU, List.all_toArray, List.all_append, List.all_map, Bool.and_eq_true, List.all_eq_true]
  refine ⟨fun x _ => rfl, fun x hx => ?_⟩
  rw [List.eq_of_mem_replicate hx]
  rfl
theorem size157 : (Tryz.prog.info? 157).map (·.size) = some 8 := by kernel_rfl
theorem size158 : (Tryz.prog.info? 158).map (·.size) = some 64 := by kernel_rfl
def h2 (p : Nat) : BitVec 32 := BitVec.ofNat 32 (fracN (sqOk p) 38 0)
def k3 (p : Nat) : BitVec 32 := BitVec.ofNat 32 (fracN (cuOk p) 38 0)
def hL : List (BitVec 32) := (primesL.take 8).map h2
def kL : List (BitVec 32) := primesL.map k3
structure ConRel (w : World) (g0 g1 g2 g3 g4 : Nat) (v x : Value) (wr : World) (k : Nat) : Prop where
  le : k ≤ 64
  x : x = .int .i64 (k : Int)
  a : Blk wr g0 (arrU 8 []) 157
  b : Blk wr g1 (arrU 64 []) 158
  c : Blk wr g2 (arrU 8 ((primesL.take (min k 8)).map h2)) 157
  d : Blk wr g3 (arrU 64 ((primesL.take k).map k3)) 158
  r : RowE enc64 84 wr g4 v primesL
  B : Below w.heap.size w wr
def ConR (w : World) (g0 g1 g2 g3 g4 : Nat) (v x : Value) (wr : World) : Prop := ∃ k, ConRel w g0 g1 g2 g3 g4 v x wr k
theorem primes_len : primesL.length = 64 := rfl
abbrev GsAt (w : World) (g0 g1 g2 g3 g4 : Nat) : Prop := g0 = w.heap.size ∧ g1 = w.heap.size + 1 ∧ g2 = w.heap.size + 2 ∧ g3 = w.heap.size + 3 ∧ g4 = w.heap.size + 4
theorem RowE.setCell {α : Type} {enc : α → Value} {e : TypeId} {w : World} {base : Nat} {v : Value} {xs : List α} (h : RowE enc e w base v xs) {p : Addr} (hp : p.block < base) (u : Value) : RowE enc e (w.setCell p u) base v xs := own_setCell h (fun e => by have := own_base h _ e.symm; omega) u
theorem ConRel.one {w wr : World} {g0 g1 g2 g3 g4 k p : Nat} {v : Value} {z : BitVec 32} (h : ConRel w g0 g1 g2 g3 g4 v (.int .i64 (k : Int)) wr k) (hg : GsAt w g0 g1 g2 g3 g4) (hlt : k < 64) (h8 : 8 ≤ k) (ht : primesL.take (k + 1) = primesL.take k ++ [p]) (hz : z = k3 p) :
    ConRel w g0 g1 g2 g3 g4 v (.int .i64 ((k : Int) + 1)) (wr.setCell ⟨g3, k, none⟩ (.int .u32 (z.toNat : Int))) (k + 1) := by
  obtain ⟨e0, e1, e2, e3, e4⟩ := hg
  have hm : min (k + 1) 8 = min k 8 := by omega
  have hd := h.d.set k (u32 z)
  rw [arrU_set (by simp [primes_len]; omega) z k (by simp [primes_len]; omega), hz, show [k3 p] = [p].map k3 from rfl, ← List.map_append, ← ht, ← hz] at hd
  refine ⟨by omega, rfl, h.a.far (by simp; omega) _, h.b.far (by simp; omega) _, ?_, hd, ?_, h.B.setCell (by simp; omega) _⟩
  · rw [hm]; exact h.c.far (by simp; omega) _
  · exact h.r.setCell (by simp; omega) _
theorem ConRel.both {w wr : World} {g0 g1 g2 g3 g4 k p : Nat} {v : Value} {y z : BitVec 32} (h : ConRel w g0 g1 g2 g3 g4 v (.int .i64 (k : Int)) wr k) (hg : GsAt w g0 g1 g2 g3 g4) (hlt : k < 64) (h8 : k < 8) (ht : primesL.take (k + 1) = primesL.take k ++ [p]) (hy : y = h2 p) (hz : z = k3 p) :
    ConRel w g0 g1 g2 g3 g4 v (.int .i64 ((k : Int) + 1)) ((wr.setCell ⟨g2, k, none⟩ (.int .u32 (y.toNat : Int))).setCell ⟨g3, k, none⟩ (.int .u32 (z.toNat : Int))) (k + 1) := by
  obtain ⟨e0, e1, e2, e3, e4⟩ := hg
  have hm : min (k + 1) 8 = k + 1 := by omega
  have hm0 : min k 8 = k := by omega
  have hc0 := h.c
  rw [hm0] at hc0
  have hc := hc0.set k (u32 y)
  rw [arrU_set (by simp [primes_len]; omega) y k (by simp [primes_len]; omega), hy, show [h2 p] = [p].map h2 from rfl, ← List.map_append, ← ht, ← hy] at hc
  have hd := (h.d.far (p := ⟨g2, k, none⟩) (by simp; omega) (u32 y)).set k (u32 z)
  rw [arrU_set (by simp [primes_len]; omega) z k (by simp [primes_len]; omega), hz, show [k3 p] = [p].map k3 from rfl, ← List.map_append, ← ht, ← hz] at hd
  refine ⟨by omega, rfl, (h.a.far (by simp; omega) _).far (by simp; omega) _, (h.b.far (by simp; omega) _).far (by simp; omega) _, ?_, hd, ?_, (h.B.setCell (by simp; omega) _).setCell (by simp; omega) _⟩
  · rw [hm]; exact hc.far (by simp; omega) _
  · exact (h.r.setCell (by simp; omega) _).setCell (by simp; omega) _
theorem const_any (w : World) : Calls Tryz.prog 89 #[] w fun e w' => e = .returned (.tuple #[.agg (arrU 8 hL), .agg (arrU 64 kL)]) ∧ Below w.heap.size w w' := by
  go_enter Tryz.func89, Tryz.ntmps89
  go_wp2_with fail
  obtain ⟨w1, hw1⟩ : ∃ w1, w1 = (((w.alloc (.cells (arrU 8 []) 157)).alloc (.cells (arrU 64 []) 158)).alloc (.cells (arrU 8 []) 157)).alloc (.cells (arrU 64 []) 158) := ⟨_, rfl⟩
  show Calls Tryz.prog 96 #[Value.int IntKind.i64 64] ((((w.alloc (.cells (arrU 8 []) 157)).alloc (.cells (arrU 64 []) 158)).alloc (.cells (arrU 8 []) 157)).alloc (.cells (arrU 64 []) 158)) _
  rw [← hw1]
  refine (primes_any w1).mono ?_
  rintro e w2 ⟨v, rfl, hR, hB⟩
  obtain ⟨g3, hg3⟩ : ∃ g, g = w.heap.size + 1 + 1 + 1 := ⟨_, rfl⟩
  obtain ⟨g2, hg2⟩ : ∃ g, g = w.heap.size + 1 + 1 := ⟨_, rfl⟩
  obtain ⟨g1, hg1⟩ : ∃ g, g = w.heap.size + 1 := ⟨_, rfl⟩
  obtain ⟨g0, hg0⟩ : ∃ g, g = w.heap.size := ⟨_, rfl⟩
  rw [← hg3, ← hg2, ← hg1, ← hg0]
  have hs1 : w1.heap.size = w.heap.size + 4 := by rw [hw1]; simp
  have hC : ConRel w g0 g1 g2 g3 w1.heap.size v (.int .i64 0) w2 0 := by
    have q0 := Blk.new w (arrU 8 []) 157
    have q1 := Blk.new (w.alloc (.cells (arrU 8 []) 157)) (arrU 64 []) 158
    have q2 := Blk.new ((w.alloc (.cells (arrU 8 []) 157)).alloc (.cells (arrU 64 []) 158)) (arrU 8 []) 157
    have q3 := Blk.new (((w.alloc (.cells (arrU 8 []) 157)).alloc (.cells (arrU 64 []) 158)).alloc (.cells (arrU 8 []) 157)) (arrU 64 []) 158
    rw [show (w.alloc (.cells (arrU 8 []) 157)).heap.size = w.heap.size + 1 by simp] at q1
    rw [show ((w.alloc (.cells (arrU 8 []) 157)).alloc (.cells (arrU 64 []) 158)).heap.size = w.heap.size + 1 + 1 by simp] at q2
    rw [show (((w.alloc (.cells (arrU 8 []) 157)).alloc (.cells (arrU 64 []) 158)).alloc (.cells (arrU 8 []) 157)).heap.size = w.heap.size + 1 + 1 + 1 by simp] at q3
    have b0 : Below w.heap.size w w1 := by rw [hw1]; exact ((((Below.refl w.heap.size w).alloc (Nat.le_refl _) _).alloc (by simp) _).alloc (by simp; omega) _).alloc (by simp; omega) _
    refine ⟨by omega, rfl, ?_, ?_, ?_, ?_, hR, b0.trans (hB.mono (by omega))⟩
    · refine Blk.below ?_ hB
      rw [hw1, hg0]
      exact ((q0.below ((Below.refl _ _).alloc (Nat.le_refl _) _)).below ((Below.refl _ _).alloc (Nat.le_refl _) _)).below ((Below.refl _ _).alloc (Nat.le_refl _) _)
    · refine Blk.below ?_ hB
      rw [hw1, hg1]
      exact (q1.below ((Below.refl _ _).alloc (Nat.le_refl _) _)).below ((Below.refl _ _).alloc (Nat.le_refl _) _)
    · refine Blk.below ?_ hB
      rw [hw1, hg2]
      exact q2.below ((Below.refl _ _).alloc (Nat.le_refl _) _)
    · refine Blk.below ?_ hB
      rw [hw1, hg3]
      exact q3
  have HC := Lib.hid hC
  obtain ⟨g4, hg4⟩ : ∃ g, g = w1.heap.size := ⟨_, rfl⟩
  rw [← hg4] at HC
  have Hg := Lib.hid (show g0 = w.heap.size ∧ g1 = w.heap.size + 1 ∧ g2 = w.heap.size + 2 ∧ g3 = w.heap.size + 3 ∧ g4 = w.heap.size + 4 from ⟨hg0, hg1, hg2, hg3, by rw [hg4, hs1]⟩)
  clear hC hR hB hw1 hg0 hg1 hg2 hg3 hg4 hs1
  obtain ⟨A, cap, rfl, hA⟩ := HC.out.r.slice
  obtain ⟨b, rfl, hb1, hb2⟩ := hA (by decide)
  have hlen : primesL.length = 64 := rfl
  rw [hlen]
  rw [hlen] at HC
  go_wp2_with fail
  go_loopw [8] (fun x wr => ConR w g0 g1 g2 g3 g4 (.slice (some ⟨b, 0, none⟩) 64 cap) x wr) (fun x _ => 64 - (intOf x).toNat)
  case atStart => exact ⟨0, HC.out⟩
  case round =>
    obtain ⟨k, hk⟩ := hrel
    have HK := Lib.hid hk
    obtain ⟨hle, rfl, -, -, -, -, -, -⟩ := hk
    by_cases hlt : k < 64
    · have hkl : k < primesL.length := by rw [hlen]; exact hlt
      have hcell := (HK.out.r.cell k hkl).1
      have hp : primesL[k] ≤ 400 := primes_le _ (List.getElem_mem _)
      have HTS := Lib.hid (take_snoc k hkl)
      obtain ⟨p, hpe⟩ : ∃ p, p = primesL[k] := ⟨_, rfl⟩
      rw [← hpe] at hcell hp HTS
      clear hpe hkl
      unfold enc64 at hcell
      have hne : g3 ≠ g2 := by have := Hg.out; omega
      have hf3 := HK.out.d.free k
      obtain ⟨cv3, hcv3⟩ := arrU_at (n := 64) (xs := (primesL.take k).map k3) (by simp; omega) k hlt
      have hc3 := HK.out.d.cell k
      rw [hcv3] at hc3
      clear hcv3
      have F3 := Lib.hid (frac3_any p hp)
      have F2 := Lib.hid (frac2_any p)
      rw [show u32 (BitVec.ofNat 32 (fracN (cuOk p) 38 0)) = u32 (k3 p) from rfl] at F3
      rw [show u32 (BitVec.ofNat 32 (fracN (sqOk p) 38 0)) = u32 (h2 p) from rfl] at F2
      obtain ⟨z, hz⟩ : ∃ z, z = k3 p := ⟨_, rfl⟩
      obtain ⟨y, hy⟩ : ∃ y, y = h2 p := ⟨_, rfl⟩
      rw [← hz] at F3
      rw [← hy] at F2
      have HZ := Lib.hid hz
      have HY := Lib.hid hy
      clear hz hy
      by_cases h8 : k < 8
      · have hf2 := HK.out.c.free k
        obtain ⟨cv, hcv⟩ := arrU_at (n := 8) (xs := (primesL.take (min k 8)).map h2) (by simp; omega) k h8
        have hc2 := HK.out.c.cell k
        rw [hcv] at hc2
        clear hcv
        go_wp2_with fail
        refine (F2.out wr).mono ?_
        rintro e w3 ⟨rfl, rfl⟩
        unfold u32
        go_wp2_with fail
        refine (F3.out _).mono ?_
        rintro e w4 ⟨rfl, rfl⟩
        unfold u32
        go_wp2_with fail
        go_roundw
        case rel => exact ⟨k + 1, HK.out.both Hg.out hlt h8 HTS.out HY.out HZ.out⟩
        case measure => simp [intOf]; omega
      · go_wp2_with fail
        refine (F3.out _).mono ?_
        rintro e w4 ⟨rfl, rfl⟩
        unfold u32
        go_wp2_with fail
        go_roundw
        case rel => exact ⟨k + 1, HK.out.one Hg.out hlt (by omega) HTS.out HZ.out⟩
        case measure => simp [intOf]; omega
    · obtain rfl : k = 64 := by omega
      go_wp2_with fail
      have hc := HK.out.c
      have hd := HK.out.d
      rw [show (primesL.take (min 64 8)).map h2 = hL from rfl] at hc
      rw [show primesL.take 64 = primesL from rfl, show primesL.map k3 = kL from rfl] at hd
      have ha := HK.out.a
      have hb := HK.out.b
      have Hne := Lib.hid (show g0 ≠ g1 ∧ g0 ≠ g2 ∧ g0 ≠ g3 ∧ g1 ≠ g2 ∧ g1 ≠ g3 ∧ w.heap.size ≤ g0 ∧ w.heap.size ≤ g1 by have := Hg.out; omega)
      have HB := Lib.hid HK.out.B
      have hs : (arrU 8 hL).size = 8 := arrU_size (by decide)
      have hk : (arrU 64 kL).size = 64 := arrU_size (by decide)
      have z8 : (arrU 8 []).size = 8 := arrU_size (by decide)
      have z64 : (arrU 64 []).size = 64 := arrU_size (by decide)
      have o8 := arrU_one 8 hL
      have o64 := arrU_one 64 kL
      obtain ⟨s, hse⟩ : ∃ s, s = arrU 8 hL := ⟨_, rfl⟩
      obtain ⟨q, hqe⟩ : ∃ q, q = arrU 64 kL := ⟨_, rfl⟩
      rw [← hse] at hc hs o8
      rw [← hqe] at hd hk o64
      have Hse := Lib.hid hse
      have Hqe := Lib.hid hqe
      clear hse hqe HC HK
      refine wp_region_held_drew (S := fun W => Blk W g2 s 157 ∧ Blk W g3 q 158) (by kernel_rfl) ⟨hc, hd⟩ (fun hHeld => ?_)
      refine wpAnyH_take (i := 0) (v := .agg s) rfl (by kernel_rfl) (by kernel_rfl) (by kernel_rfl) (fun _ _ _ h => h) (yieldsIf_load_mid rfl 157 (.tmp 2) rfl g2 0 rfl s.toList _ (fun W h => h.1.range) Tryz.underlying157 rfl (by rw [size157, Array.length_toList, hs])) hHeld ?_
      refine wpAnyH_take (i := 1) (v := .agg q) rfl (by kernel_rfl) (by kernel_rfl) (by kernel_rfl) (fun _ _ _ h => h) (yieldsIf_load_mid rfl 158 (.tmp 3) rfl g3 0 rfl q.toList _ (fun W h => h.2.range) Tryz.underlying158 rfl (by rw [size158, Array.length_toList, hk])) hHeld ?_
      refine wpAnyH_ready (rs := [2]) (by kernel_rfl) (by decide) (AllReadyH.cons rfl (fun K' hK => ?_) AllReadyH.nil)
      rw [if_pos (by rfl)]
      refine wp_store_row 157 (.tmp 0) (.tmp 24) rfl g0 s rfl rfl 157 _ (show Blk wr.drew g0 _ 157 from ha) (by rw [size157, hs]) (by rw [z8, hs]) o8 ?_
      have hS : Blk (wr.drew.setRow g0 s) g2 s 157 ∧ Blk (wr.drew.setRow g0 s) g3 q 158 := ⟨hc.rowFar (fun e => Hne.out.2.1 e.symm) s, hd.rowFar (fun e => Hne.out.2.2.1 e.symm) s⟩
      refine hK.out _ _ hS (fun hHeld2 => ?_)
      clear hK
      refine wpAnyH_ready (rs := [3]) (by kernel_rfl) (by decide) (AllReadyH.cons rfl (fun K'' hK => ?_) AllReadyH.nil)
      rw [if_pos (by rfl)]
      refine wp_store_row 158 (.tmp 1) (.tmp 25) rfl g1 q rfl rfl 158 _ (show Blk (wr.drew.setRow g0 s) g1 _ 158 from Blk.rowFar hb (fun e => Hne.out.1 e.symm) s) (by rw [size158, hk]) (by rw [z64, hk]) o64 ?_
      have hS3 : Blk ((wr.drew.setRow g0 s).setRow g1 q) g2 s 157 ∧ Blk ((wr.drew.setRow g0 s).setRow g1 q) g3 q 158 := ⟨hS.1.rowFar (fun e => Hne.out.2.2.2.1 e.symm) q, hS.2.rowFar (fun e => Hne.out.2.2.2.2.1 e.symm) q⟩
      refine hK.out _ _ hS3 (fun hHeld3 => ?_)
      clear hK
      refine wpAnyH_done (by kernel_rfl) ?_ _
      go_wp2_with fail
      have r0 : Blk ((wr.drew.setRow g0 s).setRow g1 q) g0 s 157 := Blk.rowFar (Blk.row (w := wr.drew) ha s) Hne.out.1 q
      have r1 : Blk ((wr.drew.setRow g0 s).setRow g1 q) g1 q 158 := Blk.row (w := wr.drew.setRow g0 s) (Blk.rowFar (w := wr.drew) hb (fun e => Hne.out.1 e.symm) s) q
      refine bodyPost_ret (v := .tuple #[.agg s, .agg q]) (results_cc (p := 0) (p' := 1) (ty := 157) (ty' := 158) (by kernel_rfl) _ _ g0 g1 157 158 s q (0, 0) (0, 0) _ _ rfl r0 Tryz.underlying157 rfl (by rw [size157, hs]) rfl r1 Tryz.underlying158 rfl (by rw [size158, hk])) rfl ⟨by rw [Hse.out, Hqe.out], ?_⟩
      exact below_setRow (below_setRow (below_drewN HB.out 1) Hne.out.2.2.2.2.2.1 s) Hne.out.2.2.2.2.2.2 q
end Go.Proofs.YticnmogeknlmeaaGreatDoor.B
namespace Go.Proofs.YticnmogeknlmeaaGreatDoor.B
open Go.RowKit Go.Proofs.YticnmogeknlmeaaGreatDoorW.PrintWords
set_option maxRecDepth 100000
set_option maxHeartbeats 1600000
abbrev W32 := BitVec 32
/-- A word of a block: four bytes, the highest first. -/
def word (b : List UInt8) (i : Nat) : W32 := (BitVec.ofNat 32 (b.getD (4 * i) 0).toNat) <<< 24 ||| (BitVec.ofNat 32 (b.getD (4 * i + 1) 0).toNat) <<< 16 ||| (BitVec.ofNat 32 (b.getD (4 * i + 2) 0).toNat) <<< 8 ||| BitVec.ofNat 32 (b.getD (4 * i + 3) 0).toNat
def at0 (l : List W32) (i : Nat) : W32 := l.getD i 0
def wNext (l : List W32) (i : Nat) : W32 := at0 l (i - 16) + (rr (at0 l (i - 15)) 7 ^^^ rr (at0 l (i - 15)) 18 ^^^ (at0 l (i - 15)) >>> 3) + at0 l (i - 7) + (rr (at0 l (i - 2)) 17 ^^^ rr (at0 l (i - 2)) 19 ^^^ (at0 l (i - 2)) >>> 10)
def sched (b : List UInt8) : Nat → List W32
  | 0 => []
  | i + 1 => sched b i ++ [if i < 16 then word b i else wNext (sched b i) i]
theorem sched_len (b : List UInt8) : ∀ n, (sched b n).length = n
  | 0 => rfl
  | n + 1 => by rw [sched, List.length_append, sched_len b n]; rfl
structure St where
  (a b c d e f g h : W32)
def St.cells (s : St) : Array Value := #[u32 s.a, u32 s.b, u32 s.c, u32 s.d, u32 s.e, u32 s.f, u32 s.g, u32 s.h]
def oneOf (s : St) (k w : W32) : W32 := s.h + (rr s.e 6 ^^^ rr s.e 11 ^^^ rr s.e 25) + (s.e &&& s.f ^^^ ~~~s.e &&& s.g) + k + w
def twoOf (s : St) : W32 := (rr s.a 2 ^^^ rr s.a 13 ^^^ rr s.a 22) + (s.a &&& s.b ^^^ s.a &&& s.c ^^^ s.b &&& s.c)
def rnd (s : St) (k w : W32) : St := ⟨oneOf s k w + twoOf s, s.a, s.b, s.c, s.d + oneOf s k w, s.e, s.f, s.g⟩
def rnds (s : St) (w : List W32) : Nat → St
  | 0 => s
  | i + 1 => rnd (rnds s w i) (at0 kL i) (at0 w i)
def St.add (s t : St) : St := ⟨s.a + t.a, s.b + t.b, s.c + t.c, s.d + t.d, s.e + t.e, s.f + t.f, s.g + t.g, s.h + t.h⟩
/-- The words behind a block. -/
def mix (s : St) (b : List UInt8) : St := s.add (rnds s (sched b 64) 64)
theorem xor32 (a b : W32) : Go.bits .xor .u32 (a.toNat : Int) (b.toNat : Int) = ((a ^^^ b).toNat : Int) := by
  show IntKind.u32.wrap ((BitVec.ofInt 32 (a.toNat : Int) ^^^ BitVec.ofInt 32 (b.toNat : Int)).toNat : Int) = _
  rw [ofInt_toNat, ofInt_toNat, wrap_u32]
theorem and32 (a b : W32) : Go.bits .and .u32 (a.toNat : Int) (b.toNat : Int) = ((a &&& b).toNat : Int) := by
  show IntKind.u32.wrap ((BitVec.ofInt 32 (a.toNat : Int) &&& BitVec.ofInt 32 (b.toNat : Int)).toNat : Int) = _
  rw [ofInt_toNat, ofInt_toNat, wrap_u32]
theorem rP (x : W32) (n : Nat) (m : Int) (hm : m = n) (h1 : 1 ≤ n) (h2 : n ≤ 31) (w : World) : Calls Tryz.prog 100 #[.int .u32 (x.toNat : Int), .int .i64 m] w fun e w' => e = .returned (.int .u32 ((rr x n).toNat : Int)) ∧ w' = w := by
  subst hm
  exact (right_any x n h1 h2 w).mono fun _ _ ⟨he, hw⟩ => ⟨he, hw.symm⟩
theorem rR (x : W32) (n : Nat) (m : Int) (hm : m = n) (h1 : 1 ≤ n) (h2 : n ≤ 31) (w : World) : Calls Tryz.prog 32 #[.int .u32 (x.toNat : Int), .int .u64 m] w fun e w' => e = .returned (.int .u32 ((rr x n).toNat : Int)) ∧ w' = w := by
  subst hm
  exact (rrR_any x n h1 h2 w).mono fun _ _ ⟨he, hw⟩ => ⟨he, hw.symm⟩
end Go.Proofs.YticnmogeknlmeaaGreatDoor.B
namespace Go.Proofs.YticnmogeknlmeaaGreatDoor.Later
/-- The head only reads, and calls what is quiet. -/
theorem wp_region_quiet_tail {P : Program} {id : Nat} {Q : Exit → Act → World → Prop} {a : Act} {w : World} {l : List Oper} (n : Nat) (hm : P.follows .mixedOrders = true) (hB : Region.lexTailB .any l.toArray n = true)
    (h : wpQuiet P l.toArray (fun w' => ∃ m : Nat, w' = w.drewN m) (fun a' => ∀ w', (∃ m : Nat, w' = w.drewN m) → wpList P l.toArray Q (l.drop n) a' w') (l.take n) a) : (Code.region id l.toArray true).wp P Q a w :=
  wp_region_class_tail (C := fun w' => ∃ m : Nat, w' = w.drewN m) n hm hB ⟨1, rfl⟩ h
end Go.Proofs.YticnmogeknlmeaaGreatDoor.Later
