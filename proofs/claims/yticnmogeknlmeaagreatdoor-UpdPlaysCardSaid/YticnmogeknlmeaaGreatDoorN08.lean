/- Helper: rows of words whose block is known; the rows of the document's digest. No condition. -/
import Derived.Test.YticnmogeknlmeaaGreatDoorN07
namespace Go.Proofs.YticnmogeknlmeaaGreatDoor.B
open Go.RowKit Go.Proofs.YticnmogeknlmeaaGreatDoorW.PrintWords Go.Proofs.YticnmogeknlmeaaGreatDoor.Later
set_option maxRecDepth 100000
set_option maxHeartbeats 1600000
theorem info82 : (Tryz.prog.info? 82).map (fun i => (i.zero, i.size, i.bytes)) = some (some (.int .u32 0), 1, 4) := by kernel_rfl
/-- Words at the head of a block. -/
def Pre (w : World) (g : Nat) (xs : List W32) : Prop := ∃ cur : Array Value, Blk w g cur 82 ∧ ∀ i, i < xs.length → cur[i]? = some (.int .u32 ((at0 xs i).toNat : Int))
theorem Pre.cell {w : World} {g : Nat} {xs : List W32} (h : Pre w g xs) (i : Nat) (hi : i < xs.length) : w.cell? ⟨g, i, none⟩ = some (.int .u32 ((at0 xs i).toNat : Int)) := by
  obtain ⟨cur, h1, h2⟩ := h
  exact (h1.cell i).trans (h2 i hi)
theorem Pre.free {w : World} {g : Nat} {xs : List W32} (h : Pre w g xs) (i : Nat) : w.frozen? ⟨g, i, none⟩ = false := by
  obtain ⟨cur, h1, h2⟩ := h
  exact h1.free i
theorem Pre.lt {w : World} {g : Nat} {xs : List W32} (h : Pre w g xs) : g < w.heap.size := by
  obtain ⟨cur, h1, h2⟩ := h
  exact h1.lt
theorem Pre.below {w w' : World} {g : Nat} {xs : List W32} (h : Pre w g xs) (hb : Below w.heap.size w w') : Pre w' g xs := by
  obtain ⟨cur, h1, h2⟩ := h
  exact ⟨cur, h1.below hb, h2⟩
theorem Pre.far {w : World} {g : Nat} {xs : List W32} (h : Pre w g xs) {p : Addr} (hp : g ≠ p.block) (v : Value) : Pre (w.setCell p v) g xs := by
  obtain ⟨cur, h1, h2⟩ := h
  exact ⟨cur, h1.far hp v, h2⟩
theorem Pre.grown {w w' : World} {g : Nat} {xs : List W32} {row : Option Nat} (h : Pre w g xs) (hg : w.grownBy w' row) (hne : some g ≠ row) : Pre w' g xs := by
  obtain ⟨cur, h1, h2⟩ := h
  exact ⟨cur, blk_grown h1 hg hne, h2⟩
theorem at0_set (xs : List W32) (i j : Nat) (x : W32) (hi : i < xs.length) : at0 (xs.set i x) j = if i = j then x else at0 xs j := by
  unfold at0
  rw [List.getD_eq_getElem?_getD, List.getElem?_set]
  by_cases h : i = j
  · subst h; simp [hi]
  · simp [h]
theorem Pre.set {w : World} {g : Nat} {xs : List W32} (h : Pre w g xs) (i : Nat) (hi : i < xs.length) (x : W32) : Pre (w.setCell ⟨g, i, none⟩ (.int .u32 (x.toNat : Int))) g (xs.set i x) := by
  obtain ⟨cur, h1, h2⟩ := h
  refine ⟨_, h1.set i _, fun j hj => ?_⟩
  rw [List.length_set] at hj
  rw [at0_set xs i j x hi]
  have hs : i < cur.size := (Array.getElem?_eq_some_iff.1 (h2 i hi)).1
  by_cases e : i = j
  · subst e
    rw [if_pos rfl, Array.getElem?_setIfInBounds_self_of_lt hs]
  · rw [if_neg e, Array.getElem?_setIfInBounds_ne e]
    exact h2 j hj
theorem RowE.pre {w : World} {base : Nat} {v : Value} {xs : List W32} (h : RowE u32 82 w base v xs) (h0 : 0 < xs.length) : ∃ g cap, v = .slice (some ⟨g, 0, none⟩) xs.length cap ∧ base ≤ g ∧ Pre w g xs := by
  rcases h.2 with ⟨_, hn⟩ | ⟨g, cap, cur, hv, hb, hh, hn, hc, hsz, htk⟩
  · omega
  · refine ⟨g, cap, hv, hb, cur, hh, fun i hi => ?_⟩
    have hcell : w.cell? ⟨g, i, none⟩ = some (u32 xs[i]) := (RowE.cell (xs := xs) (by rw [← hv]; exact h) i hi).1
    have : w.cell? ⟨g, i, none⟩ = cur[i]? := by simp [World.cell?, hh]
    rw [← this, hcell]
    simp [u32, at0, List.getD_eq_getElem?_getD, List.getElem?_eq_getElem hi]
/-- The rows of the beginning. -/
structure RefA (w : World) (i : Nat) (pv hv kv : Value) (wr : World) : Prop where
  p : RowE enc64 84 wr w.heap.size pv primesL
  h : RowE u32 82 wr w.heap.size hv ((primesL.take (min i 8)).map (rb 2))
  k : RowE u32 82 wr w.heap.size kv ((primesL.take i).map (rb 3))
  ne : NeRow hv kv
  B : Below w.heap.size w wr
theorem RefA.below {w : World} {i : Nat} {pv hv kv : Value} {wr w2 : World} (h : RefA w i pv hv kv wr) (hb : Below wr.heap.size wr w2) : RefA w i pv hv kv w2 :=
  ⟨h.p.below hb, h.h.below hb, h.k.below hb, h.ne, h.B.trans (hb.mono h.B.size)⟩
structure RefH (w : World) (i : Nat) (pv hv kv : Value) (wr : World) : Prop where
  p : RowE enc64 84 wr w.heap.size pv primesL
  h : RowE u32 82 wr w.heap.size hv ((primesL.take (min (i + 1) 8)).map (rb 2))
  k : RowE u32 82 wr w.heap.size kv ((primesL.take i).map (rb 3))
  ne : NeRow hv kv
  B : Below w.heap.size w wr
theorem RefH.below {w : World} {i : Nat} {pv hv kv : Value} {wr w2 : World} (h : RefH w i pv hv kv wr) (hb : Below wr.heap.size wr w2) : RefH w i pv hv kv w2 :=
  ⟨h.p.below hb, h.h.below hb, h.k.below hb, h.ne, h.B.trans (hb.mono h.B.size)⟩
theorem RefA.skip {w : World} {i : Nat} {pv hv kv : Value} {wr : World} (h : RefA w i pv hv kv wr) (h8 : 8 ≤ i) : RefH w i pv hv kv wr :=
  ⟨h.p, by rw [show min (i + 1) 8 = min i 8 by omega]; exact h.h, h.k, h.ne, h.B⟩
theorem RefA.putH {w : World} {i p : Nat} {pv hv kv v1 : Value} {wr w1 : World} (h : RefA w i pv hv kv wr) (h8 : i < 8) (ht : primesL.take (i + 1) = primesL.take i ++ [p]) (hR : w1.ownsRow w.heap.size 82 1 v1 ((primesL.take (min i 8)).map (rb 2) ++ [rb 2 p]).length (encs u32 ((primesL.take (min i 8)).map (rb 2) ++ [rb 2 p]))) (hB : Below w.heap.size w w1) (hg : wr.grownBy w1 hv.ownBlock) (hat : v1.ownBlock = hv.ownBlock ∨ ∃ b, v1.ownBlock = some b ∧ wr.heap.size ≤ b) : RefH w i pv v1 kv w1 := by
  refine ⟨own_other h.p hg (ne_other (ne_types h.h h.p (by decide))), ?_, own_other h.k hg (ne_other h.ne), ne_append h.ne hat h.k, hB⟩
  rw [show min (i + 1) 8 = i + 1 by omega, ht]
  rw [show min i 8 = i by omega] at hR
  rw [List.map_append]
  exact hR
theorem RefH.putK {w : World} {i p : Nat} {pv hv kv v1 : Value} {wr w1 : World} (h : RefH w i pv hv kv wr) (ht : primesL.take (i + 1) = primesL.take i ++ [p]) (hR : w1.ownsRow w.heap.size 82 1 v1 ((primesL.take i).map (rb 3) ++ [rb 3 p]).length (encs u32 ((primesL.take i).map (rb 3) ++ [rb 3 p]))) (hB : Below w.heap.size w w1) (hg : wr.grownBy w1 kv.ownBlock) (hat : v1.ownBlock = kv.ownBlock ∨ ∃ b, v1.ownBlock = some b ∧ wr.heap.size ≤ b) : RefA w (i + 1) pv hv v1 w1 := by
  refine ⟨own_other h.p hg (ne_other (ne_types h.k h.p (by decide))), own_other h.h hg (ne_other (ne_symm h.ne)), ?_, ne_append' h.ne hat h.h, hB⟩
  rw [ht, List.map_append]
  exact hR
end Go.Proofs.YticnmogeknlmeaaGreatDoor.B
