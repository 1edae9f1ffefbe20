/- Helper: maps keyed by an int, as functions of the key; their laws. No condition. -/
import Derived.Test.YteilmbhnbmmcjaaBa
import Derived.Maps.Own
import Derived.Maps.OwnOps
import Derived.Maps.OwnSet
import Derived.Maps.RangeWalk
import Derived.Maps.Ext
namespace Go.Proofs.Yteilmbhnbmmcjaa.B
open Go.RowKit Go.Maps Go.Proofs.YteilmbhnbmmcjaaW.PrintWords
/-- How elements are laid, and read. -/
structure Cod (α : Type) where
  enc : α → Value
  dec : Value → Option α
  fit : ∀ a, dec (enc a) = some a
  inv : ∀ v a, dec v = some a → v = enc a
def Cod.R {α : Type} (c : Cod α) (v : Value) : Option (DataW α × List MemPlace) := (c.dec v).map fun a => (.held a, [])
theorem Cod.R_enc {α : Type} (c : Cod α) (a : α) : c.R (c.enc a) = some (.held a, []) := by simp [Cod.R, c.fit]
theorem Cod.R_inv {α : Type} (c : Cod α) {v : Value} {y : DataW α × List MemPlace} (h : c.R v = some y) : ∃ a, v = c.enc a ∧ y = (.held a, []) := by
  unfold Cod.R at h
  obtain ⟨a, h1, h2⟩ := Option.map_eq_some_iff.1 h
  exact ⟨a, c.inv v a h1, h2.symm⟩
def kl (k : Int) : Lit := .int .i64 k
def I64 (k : Int) : Prop := -9223372036854775808 ≤ k ∧ k ≤ 9223372036854775807
theorem und3 : Try.prog.underlying 3 = some (.int .i64) := by kernel_rfl
theorem law3 : Keyed Try.prog 3 := int_keyed und3
theorem kl_wf {k : Int} (h : I64 k) : (kl k).wf = true := by
  have : (Lit.int .i64 k).wf = true := WalkArith.wf_i64 h
  exact this
theorem key3 {k : Int} (h : I64 k) : keyOf Try.prog 3 (.int .i64 k) = some (kl k) := keyOf_int_mk und3 (kl_wf h)
theorem kl_inj {a b : Int} (h : kl a = kl b) : a = b := by
  unfold kl at h; injection h
theorem kl_key {k : Int} (h : I64 k) : WideAt.IsKeyLit (kl k) := law3.key (key3 h)
/-- What a map holds, by the key. -/
def Holds {α : Type} (D : DataW α) (f : Int → Option α) : Prop :=
  ∀ k, I64 k → (∀ v, f k = some v → has D (kl k) = true ∧ ∀ z, D.atKey (kl k) z = .held v) ∧ (f k = none → has D (kl k) = false)
theorem Holds.empty {α : Type} : Holds (.map [] : DataW α) (fun _ => none) := fun _ _ => ⟨fun _ h => by simp at h, fun _ => rfl⟩
def up {α : Type} (f : Int → Option α) (k : Int) (v : Option α) : Int → Option α := fun i => if i = k then v else f i
theorem up_same {α : Type} (f : Int → Option α) (k : Int) (v : Option α) : up f k v k = v := by simp [up]
theorem up_other {α : Type} (f : Int → Option α) {k i : Int} (v : Option α) (h : i ≠ k) : up f k v i = f i := by simp [up, h]
theorem Holds.put {α : Type} {D : DataW α} {f : Int → Option α} (h : Holds D f) (hD : IsMap D) {k : Int} (hk : I64 k) (v : α) : Holds (D.put (kl k) (.held v)) (up f k (some v)) := by
  intro i hi
  by_cases e : i = k
  · subst e
    refine ⟨fun u hu => ?_, fun hn => ?_⟩
    · rw [up_same] at hu
      obtain rfl := Option.some.inj hu
      exact ⟨has_put_same hD (kl_key hk) _, fun z => atKey_put_same hD (kl_key hk) _ z⟩
    · rw [up_same] at hn; cases hn
  · have hne : kl i ≠ kl k := fun h => e (kl_inj h)
    rw [up_other f _ e]
    refine ⟨fun u hu => ?_, fun hn => ?_⟩
    · exact ⟨by rw [has_put_other hne]; exact ((h i hi).1 u hu).1, fun z => by rw [atKey_put_other hne]; exact ((h i hi).1 u hu).2 z⟩
    · rw [has_put_other hne]; exact (h i hi).2 hn
theorem Holds.del {α : Type} {D : DataW α} {f : Int → Option α} (h : Holds D f) (k : Int) : Holds (D.del (kl k)) (up f k none) := by
  intro i hi
  by_cases e : i = k
  · subst e
    rw [up_same]
    exact ⟨fun u hu => (by cases hu), fun _ => has_del_same⟩
  · have hne : kl i ≠ kl k := fun h => e (kl_inj h)
    rw [up_other f _ e]
    refine ⟨fun u hu => ?_, fun hn => ?_⟩
    · exact ⟨by rw [has_del_other hne]; exact ((h i hi).1 u hu).1, fun z => by rw [atKey_del_other hne]; exact ((h i hi).1 u hu).2 z⟩
    · rw [has_del_other hne]; exact (h i hi).2 hn
theorem Holds.ext {α : Type} {D : DataW α} {f g : Int → Option α} (h : Holds D f) (e : ∀ k, I64 k → g k = f k) : Holds D g := fun k hk => by rw [e k hk]; exact h k hk
/-- Block b is a map of at most n entries that holds f. -/
def MapAt {α : Type} (c : Cod α) (w : World) (b n : Nat) (f : Int → Option α) : Prop := ∃ D, w.ownsMap Try.prog 3 c.R b n D ∧ Holds D f
section
variable {α : Type} {c : Cod α} {w w' : World} {b n : Nat} {f : Int → Option α}
theorem MapAt.new (c : Cod α) (w : World) : MapAt c (w.alloc (.map #[] 0)) w.heap.size 0 (fun _ => none) := ⟨_, World.ownsMap_made w Try.prog 3 c.R, Holds.empty⟩
theorem MapAt.lt (h : MapAt c w b n f) : b < w.heap.size := by obtain ⟨D, h1, _⟩ := h; exact h1.lt
theorem MapAt.same (h : MapAt c w b n f) (e : w'.heap[b]? = w.heap[b]?) : MapAt c w' b n f := by
  obtain ⟨D, ⟨es, clock, hb, r⟩, h2⟩ := h
  exact ⟨D, ⟨es, clock, e.trans hb, r⟩, h2⟩
theorem MapAt.grown {row : Option Nat} (h : MapAt c w b n f) (hg : w.grownBy w' row) (hne : some b ≠ row) : MapAt c w' b n f := by
  obtain ⟨D, h1, h2⟩ := h
  exact ⟨D, h1.kept hg hne, h2⟩
theorem MapAt.below (h : MapAt c w b n f) (hb : Below w.heap.size w w') : MapAt c w' b n f := h.same (hb.block b h.lt)
theorem MapAt.kept {S : Nat → Prop} (h : MapAt c w b n f) (hm : Mut S w w') (hs : ¬ S b) : MapAt c w' b n f := h.same (hm.block b h.lt hs)
theorem MapAt.far (h : MapAt c w b n f) {p : Addr} (hp : b ≠ p.block) (v : Value) : MapAt c (w.setCell p v) b n f := h.same (Below.heap_setCell w p v b hp)
theorem MapAt.mono (h : MapAt c w b n f) {m : Nat} (hn : n ≤ m) : MapAt c w b m f := by
  obtain ⟨D, h1, h2⟩ := h
  exact ⟨D, h1.mono hn, h2⟩
theorem MapAt.ext {g : Int → Option α} (h : MapAt c w b n f) (e : ∀ k, I64 k → g k = f k) : MapAt c w b n g := by
  obtain ⟨D, h1, h2⟩ := h
  exact ⟨D, h1, h2.ext e⟩
/-- The map is no row of cells. -/
theorem MapAt.ne_blk {g : Nat} {cs : Array Value} {t : TypeId} (h : MapAt c w b n f) (hg : Blk w g cs t) : b ≠ g := by
  rintro rfl
  obtain ⟨D, ⟨es, clock, hb, _⟩, _⟩ := h
  rw [Blk] at hg
  rw [hb] at hg
  cases hg
theorem MapAt.look {t e : TypeId} (h : MapAt c w b n f) (ht : Try.prog.underlying t = some (.map 3 e)) {z : α} (hz : (zeroValue e).run Try.prog w = .ok (c.enc z) w) {k : Int} (hk : I64 k) :
    (Instr.lookup t (.map (some b)) (.int .i64 k) true).run Try.prog w = .ok (.tuple #[c.enc ((f k).getD z), .bool (f k).isSome]) w ∧ (Instr.lookup t (.map (some b)) (.int .i64 k) false).run Try.prog w = .ok (c.enc ((f k).getD z)) w := by
  obtain ⟨D, h1, h2⟩ := h
  obtain ⟨v, ps, r1, r2⟩ := h1.look_ok law3 ht hz (c.R_enc z) (key3 hk)
  obtain ⟨v', ps', q1, q2⟩ := h1.lookup law3 ht hz (c.R_enc z) (key3 hk)
  obtain ⟨a, rfl, ha⟩ := c.R_inv r2
  obtain ⟨a', rfl, ha'⟩ := c.R_inv q2
  have e1 : D.atKey (kl k) (.held z) = .held a := (Prod.mk.injEq .. ▸ ha).1
  have e2 : D.atKey (kl k) (.held z) = .held a' := (Prod.mk.injEq .. ▸ ha').1
  have e3 : a = (f k).getD z ∧ has D (kl k) = (f k).isSome := by
    cases hf : f k with
    | none =>
      have hh := (h2 k hk).2 hf
      rw [atKey_of_not_has hh] at e1
      injection e1 with e1
      exact ⟨e1.symm, hh⟩
    | some u =>
      obtain ⟨hh, hu⟩ := (h2 k hk).1 u hf
      rw [hu] at e1
      injection e1 with e1
      exact ⟨e1.symm, hh⟩
  have e4 : a' = a := (DataW.held.inj (e1.symm.trans e2)).symm
  rw [e4] at q1
  rw [e3.2] at r1
  rw [e3.1] at r1 q1
  exact ⟨r1, q1⟩
theorem MapAt.put {t e : TypeId} (h : MapAt c w b n f) (ht : Try.prog.underlying t = some (.map 3 e)) (hn : n < 1000000) {k : Int} (hk : I64 k) (v : α) :
    ∃ w', (Instr.mapUpdate t (.map (some b)) (.int .i64 k) (c.enc v)).run Try.prog w = .ok () w' ∧ MapAt c w' b (n + 1) (up f k (some v)) ∧ w.grownBy w' (some b) ∧ w'.heap.size = w.heap.size := by
  obtain ⟨D, h1, h2⟩ := h
  obtain ⟨w', r1, r2, r3⟩ := h1.store law3 ht (by unfold maxLen; omega) (key3 hk) (c.R_enc v)
  refine ⟨w', r1, ⟨_, r2, h2.put h1.isMap hk v⟩, r3.grown, ?_⟩
  obtain ⟨_, _, _, _, _, rfl⟩ := r3
  simp [ChangeMaps.setBlock]
theorem MapAt.del {t e : TypeId} (h : MapAt c w b n f) (ht : Try.prog.underlying t = some (.map 3 e)) {k : Int} (hk : I64 k) (ty : TypeId) :
    ∃ w', (Builtin.delete_ #[t, 3] ty #[.map (some b), .int .i64 k]).run Try.prog w = .ok (.tuple #[]) w' ∧ MapAt c w' b n (up f k none) ∧ w.grownBy w' (some b) ∧ w'.heap.size = w.heap.size := by
  obtain ⟨D, h1, h2⟩ := h
  obtain ⟨w', r1, r2, r3⟩ := h1.drop law3 ht (key3 hk) ty
  refine ⟨w', r1, ⟨_, r2, h2.del k⟩, r3.grown, ?_⟩
  obtain ⟨_, _, _, _, _, rfl⟩ := r3
  simp [ChangeMaps.setBlock]
end
theorem Mut.of_grown {S : Nat → Prop} {w w' : World} {b : Nat} (h : w.grownBy w' (some b)) (hb : S b) : Mut S w w' := ⟨h.os, h.tape, h.output, h.size, fun i hi hs => h.block i hi (fun e => hs (by injection e with e; rw [e]; exact hb))⟩
end Go.Proofs.Yteilmbhnbmmcjaa.B
