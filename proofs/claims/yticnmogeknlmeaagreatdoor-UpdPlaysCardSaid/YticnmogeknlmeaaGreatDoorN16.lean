/- Helper: maps keyed by an int, as functions of the key; their laws. pages, spaces, trees in memory; a map's clone, walked. a range over a map keyed by an int; how many keys a map may have. trees of spaces in memory; clone, walked. No condition. -/
import Derived.Test.YticnmogeknlmeaaGreatDoorN01
import Derived.Maps.Own
import Derived.Maps.OwnOps
import Derived.Maps.OwnSet
import Derived.Maps.RangeWalk
import Derived.Maps.Ext
import Derived.WalkSpells
import Derived.Deep.Light
namespace Go.Proofs.YticnmogeknlmeaaGreatDoor.B
open Go.RowKit Go.Maps Go.Proofs.YticnmogeknlmeaaGreatDoorW.PrintWords
/-- How elements are laid, and read. -/
structure Cod (α : Type) where
  enc : α → Value
  dec : Value → Option α
  fit : ∀ a, dec (enc a) = some a
  inv : ∀ v a, dec v = some a → v = enc a
def Cod.R {α : Type} (c : Cod α) (v : Value) : Option (DataW α × List MemPlace) := (c.dec v).map fun a => (.held a, [])
theorem Cod.R_enc {α : Type} (c : Cod α) (a : α) : c.R (c.enc a) = some (.held a, []) := by simp [Cod.R, c.fit]
theorem Cod.R_inv {α : Type} (c : Cod α) {v : Value} {y : DataW α × List MemPlace} (h : c.R v = some y) : ∃ a, v = c.enc a ∧ y = (.held a, []) := by
  unfold Cod.R at h
  obtain ⟨a, h1, h2⟩ := Option.map_eq_some_iff.1 h
  exact ⟨a, c.inv v a h1, h2.symm⟩
def kl (k : Int) : Lit := .int .i64 k
def I64 (k : Int) : Prop := -9223372036854775808 ≤ k ∧ k ≤ 9223372036854775807
theorem und3 : Tryz.prog.underlying 3 = some (.int .i64) := by kernel_rfl
theorem law3 : Keyed Tryz.prog 3 := int_keyed und3
theorem kl_wf {k : Int} (h : I64 k) : (kl k).wf = true := by
  have : (Lit.int .i64 k).wf = true := WalkArith.wf_i64 h
  exact this
theorem key3 {k : Int} (h : I64 k) : keyOf Tryz.prog 3 (.int .i64 k) = some (kl k) := keyOf_int_mk und3 (kl_wf h)
theorem kl_inj {a b : Int} (h : kl a = kl b) : a = b := by
  unfold kl at h; injection h
theorem kl_key {k : Int} (h : I64 k) : WideAt.IsKeyLit (kl k) := law3.key (key3 h)
/-- What a map holds, by the key. -/
def Holds {α : Type} (D : DataW α) (f : Int → Option α) : Prop :=
  ∀ k, I64 k → (∀ v, f k = some v → has D (kl k) = true ∧ ∀ z, D.atKey (kl k) z = .held v) ∧ (f k = none → has D (kl k) = false)
theorem Holds.empty {α : Type} : Holds (.map [] : DataW α) (fun _ => none) := fun _ _ => ⟨fun _ h => by simp at h, fun _ => rfl⟩
def up {α : Type} (f : Int → Option α) (k : Int) (v : Option α) : Int → Option α := fun i => if i = k then v else f i
theorem up_same {α : Type} (f : Int → Option α) (k : Int) (v : Option α) : up f k v k = v := by simp [up]
theorem up_other {α : Type} (f : Int → Option α) {k i : Int} (v : Option α) (h : i ≠ k) : up f k v i = f i := by simp [up, h]
theorem Holds.put {α : Type} {D : DataW α} {f : Int → Option α} (h : Holds D f) (hD : IsMap D) {k : Int} (hk : I64 k) (v : α) : Holds (D.put (kl k) (.held v)) (up f k (some v)) := by
  intro i hi
  by_cases e : i = k
  · subst e
    refine ⟨fun u hu => ?_, fun hn => ?_⟩
    · rw [up_same] at hu
      obtain rfl := Option.some.inj hu
      exact ⟨has_put_same hD (kl_key hk) _, fun z => atKey_put_same hD (kl_key hk) _ z⟩
    · rw [up_same] at hn; cases hn
  · have hne : kl i ≠ kl k := fun h => e (kl_inj h)
    rw [up_other f _ e]
    refine ⟨fun u hu => ?_, fun hn => ?_⟩
    · exact ⟨by rw [has_put_other hne]; exact ((h i hi).1 u hu).1, fun z => by rw [atKey_put_other hne]; exact ((h i hi).1 u hu).2 z⟩
    · rw [has_put_other hne]; exact (h i hi).2 hn
theorem Holds.del {α : Type} {D : DataW α} {f : Int → Option α} (h : Holds D f) (k : Int) : Holds (D.del (kl k)) (up f k none) := by
  intro i hi
  by_cases e : i = k
  · subst e
    rw [up_same]
    exact ⟨fun u hu => (by cases hu), fun _ => has_del_same⟩
  · have hne : kl i ≠ kl k := fun h => e (kl_inj h)
    rw [up_other f _ e]
    refine ⟨fun u hu => ?_, fun hn => ?_⟩
    · exact ⟨by rw [has_del_other hne]; exact ((h i hi).1 u hu).1, fun z => by rw [atKey_del_other hne]; exact ((h i hi).1 u hu).2 z⟩
    · rw [has_del_other hne]; exact (h i hi).2 hn
theorem Holds.ext {α : Type} {D : DataW α} {f g : Int → Option α} (h : Holds D f) (e : ∀ k, I64 k → g k = f k) : Holds D g := fun k hk => by rw [e k hk]; exact h k hk
/-- Block b is a map of at most n entries that holds f. -/
def MapAt {α : Type} (c : Cod α) (w : World) (b n : Nat) (f : Int → Option α) : Prop := ∃ D, w.ownsMap Tryz.prog 3 c.R b n D ∧ Holds D f
section
variable {α : Type} {c : Cod α} {w w' : World} {b n : Nat} {f : Int → Option α}
theorem MapAt.new (c : Cod α) (w : World) : MapAt c (w.alloc (.map #[] 0)) w.heap.size 0 (fun _ => none) := ⟨_, World.ownsMap_made w Tryz.prog 3 c.R, Holds.empty⟩
theorem MapAt.lt (h : MapAt c w b n f) : b < w.heap.size := by obtain ⟨D, h1, _⟩ := h; exact h1.lt
theorem MapAt.same (h : MapAt c w b n f) (e : w'.heap[b]? = w.heap[b]?) : MapAt c w' b n f := by
  obtain ⟨D, ⟨es, clock, hb, r⟩, h2⟩ := h
  exact ⟨D, ⟨es, clock, e.trans hb, r⟩, h2⟩
theorem MapAt.grown {row : Option Nat} (h : MapAt c w b n f) (hg : w.grownBy w' row) (hne : some b ≠ row) : MapAt c w' b n f := by
  obtain ⟨D, h1, h2⟩ := h
  exact ⟨D, h1.kept hg hne, h2⟩
theorem MapAt.below (h : MapAt c w b n f) (hb : Below w.heap.size w w') : MapAt c w' b n f := h.same (hb.block b h.lt)
theorem MapAt.kept {S : Nat → Prop} (h : MapAt c w b n f) (hm : Mut S w w') (hs : ¬ S b) : MapAt c w' b n f := h.same (hm.block b h.lt hs)
theorem MapAt.far (h : MapAt c w b n f) {p : Addr} (hp : b ≠ p.block) (v : Value) : MapAt c (w.setCell p v) b n f := h.same (Below.heap_setCell w p v b hp)
theorem MapAt.mono (h : MapAt c w b n f) {m : Nat} (hn : n ≤ m) : MapAt c w b m f := by
  obtain ⟨D, h1, h2⟩ := h
  exact ⟨D, h1.mono hn, h2⟩
theorem MapAt.ext {g : Int → Option α} (h : MapAt c w b n f) (e : ∀ k, I64 k → g k = f k) : MapAt c w b n g := by
  obtain ⟨D, h1, h2⟩ := h
  exact ⟨D, h1, h2.ext e⟩
/-- The map is no row of cells. -/
theorem MapAt.ne_blk {g : Nat} {cs : Array Value} {t : TypeId} (h : MapAt c w b n f) (hg : Blk w g cs t) : b ≠ g := by
  rintro rfl
  obtain ⟨D, ⟨es, clock, hb, _⟩, _⟩ := h
  rw [Blk] at hg
  rw [hb] at hg
  cases hg
theorem MapAt.look {t e : TypeId} (h : MapAt c w b n f) (ht : Tryz.prog.underlying t = some (.map 3 e)) {z : α} (hz : (zeroValue e).run Tryz.prog w = .ok (c.enc z) w) {k : Int} (hk : I64 k) :
    (Instr.lookup t (.map (some b)) (.int .i64 k) true).run Tryz.prog w = .ok (.tuple #[c.enc ((f k).getD z), .bool (f k).isSome]) w ∧ (Instr.lookup t (.map (some b)) (.int .i64 k) false).run Tryz.prog w = .ok (c.enc ((f k).getD z)) w := by
  obtain ⟨D, h1, h2⟩ := h
  obtain ⟨v, ps, r1, r2⟩ := h1.look_ok law3 ht hz (c.R_enc z) (key3 hk)
  obtain ⟨v', ps', q1, q2⟩ := h1.lookup law3 ht hz (c.R_enc z) (key3 hk)
  obtain ⟨a, rfl, ha⟩ := c.R_inv r2
  obtain ⟨a', rfl, ha'⟩ := c.R_inv q2
  have e1 : D.atKey (kl k) (.held z) = .held a := (Prod.mk.injEq .. ▸ ha).1
  have e2 : D.atKey (kl k) (.held z) = .held a' := (Prod.mk.injEq .. ▸ ha').1
  have e3 : a = (f k).getD z ∧ has D (kl k) = (f k).isSome := by
    cases hf : f k with
    | none =>
      have hh := (h2 k hk).2 hf
      rw [atKey_of_not_has hh] at e1
      injection e1 with e1
      exact ⟨e1.symm, hh⟩
    | some u =>
      obtain ⟨hh, hu⟩ := (h2 k hk).1 u hf
      rw [hu] at e1
      injection e1 with e1
      exact ⟨e1.symm, hh⟩
  have e4 : a' = a := (DataW.held.inj (e1.symm.trans e2)).symm
  rw [e4] at q1
  rw [e3.2] at r1
  rw [e3.1] at r1 q1
  exact ⟨r1, q1⟩
theorem MapAt.put {t e : TypeId} (h : MapAt c w b n f) (ht : Tryz.prog.underlying t = some (.map 3 e)) (hn : n < 1000000) {k : Int} (hk : I64 k) (v : α) :
    ∃ w', (Instr.mapUpdate t (.map (some b)) (.int .i64 k) (c.enc v)).run Tryz.prog w = .ok () w' ∧ MapAt c w' b (n + 1) (up f k (some v)) ∧ w.grownBy w' (some b) ∧ w'.heap.size = w.heap.size := by
  obtain ⟨D, h1, h2⟩ := h
  obtain ⟨w', r1, r2, r3⟩ := h1.store law3 ht (by unfold maxLen; omega) (key3 hk) (c.R_enc v)
  refine ⟨w', r1, ⟨_, r2, h2.put h1.isMap hk v⟩, r3.grown, ?_⟩
  obtain ⟨_, _, _, _, _, rfl⟩ := r3
  simp [ChangeMaps.setBlock]
theorem MapAt.del {t e : TypeId} (h : MapAt c w b n f) (ht : Tryz.prog.underlying t = some (.map 3 e)) {k : Int} (hk : I64 k) (ty : TypeId) :
    ∃ w', (Builtin.delete_ #[t, 3] ty #[.map (some b), .int .i64 k]).run Tryz.prog w = .ok (.tuple #[]) w' ∧ MapAt c w' b n (up f k none) ∧ w.grownBy w' (some b) ∧ w'.heap.size = w.heap.size := by
  obtain ⟨D, h1, h2⟩ := h
  obtain ⟨w', r1, r2, r3⟩ := h1.drop law3 ht (key3 hk) ty
  refine ⟨w', r1, ⟨_, r2, h2.del k⟩, r3.grown, ?_⟩
  obtain ⟨_, _, _, _, _, rfl⟩ := r3
  simp [ChangeMaps.setBlock]
end
theorem Mut.of_grown {S : Nat → Prop} {w w' : World} {b : Nat} (h : w.grownBy w' (some b)) (hb : S b) : Mut S w w' := ⟨h.os, h.tape, h.output, h.size, fun i hi hs => h.block i hi (fun e => hs (by injection e with e; rw [e]; exact hb))⟩
end Go.Proofs.YticnmogeknlmeaaGreatDoor.B
namespace Go.Proofs.YticnmogeknlmeaaGreatDoor.B
open Go.RowKit Go.Maps Go.Proofs.YticnmogeknlmeaaGreatDoorW.PrintWords
set_option maxRecDepth 100000
set_option maxHeartbeats 800000
def codL : Cod (ByteArray × Int) where
  enc := fun a => .agg #[.string a.1, .int .i64 a.2]
  dec := fun v => match v with
    | .agg ⟨[.string s, .int .i64 n]⟩ => some (s, n)
    | _ => none
  fit := fun _ => rfl
  inv := by
    intro v a h
    split at h
    · obtain rfl := Option.some.inj h; rfl
    · cases h
def codS : Cod (Int × Bool × Option Nat) where
  enc := fun a => .agg #[.int .i64 a.1, .bool a.2.1, .map a.2.2]
  dec := fun v => match v with
    | .agg ⟨[.int .i64 q, .bool s, .map o]⟩ => some (q, s, o)
    | _ => none
  fit := fun _ => rfl
  inv := by
    intro v a h
    split at h
    · obtain rfl := Option.some.inj h; rfl
    · cases h
def codB : Cod Bool where
  enc := fun a => .bool a
  dec := fun v => match v with
    | .bool a => some a
    | _ => none
  fit := fun _ => rfl
  inv := by
    intro v a h
    split at h
    · obtain rfl := Option.some.inj h; rfl
    · cases h
theorem und92 : Tryz.prog.underlying 116 = some (.map 3 207) := by kernel_rfl
theorem und107 : Tryz.prog.underlying 205 = some (.map 3 203) := by kernel_rfl
theorem und157 : Tryz.prog.underlying 217 = some (.map 3 4) := by kernel_rfl
theorem zero109 (w : World) : (zeroValue 207).run Tryz.prog w = .ok (codS.enc (0, false, none)) w := by kernel_rfl
theorem zero111 (w : World) : (zeroValue 203).run Tryz.prog w = .ok (codL.enc (⟨#[]⟩, 0)) w := by kernel_rfl
/-- Pages, as they are seen: what each says. -/
def PagesAt (w : World) (rp : Nat) (pg : Int → Option ByteArray) : Prop :=
  ∃ G : Int → Option (ByteArray × Int), MapAt codL w rp 1024 G ∧ (∀ p, (G p).map (·.1) = pg p) ∧ ∀ p s n, G p = some (s, n) → I64 n
theorem run_clone (r : Nat) (w : World) (es : Array MapEntry) (clock : Nat) (h : w.heap[r]? = some (.map es clock)) : (callFunc 148 #[.iface 205 (.map (some r))]).run Tryz.prog w = .ok (.value (.iface 205 (.map (some w.heap.size)))) (w.alloc (.map es clock)) := by
  rw [run_callFunc_extern (e := Extern.MapsClone.clone) Tryz.func148 (by kernel_rfl) (by kernel_rfl) (by kernel_rfl) (by kernel_rfl) _ w]
  have e : Extern.MapsClone.clone #[.iface 205 (.map (some r))] = (do
    let .map entries clock ← getObj r | stuck "maps.clone: a map expected"
    pure (.iface 205 (.map (some (← newObj (.map entries clock)))))) := rfl
  rw [e]
  simp [MapKept.run_getObj_map h, Result.andThen, newObj]
  rfl
theorem eql_map (t : TypeId) (k e : TypeId) (o : Option Nat) (ht : Tryz.prog.underlying t = some (.map k e)) (w : World) : (binOp .eql t (.map o) (.map none)).run Tryz.prog w = .ok (.bool o.isNone) w := run_eql_map_nil w t k e o ht
theorem assert107 (x : Value) (W : World) : (Instr.typeAssert (.iface 205 x) 20 205 false).run Tryz.prog W = .ok x W := by kernel_rfl
theorem clone_any {α : Type} (c : Cod α) (r n : Nat) (f : Int → Option α) (w : World) (h : MapAt c w r n f) : Calls Tryz.prog 144 #[.map (some r)] w fun e w' => e = .returned (.map (some w.heap.size)) ∧ MapAt c w' w.heap.size n f ∧ Below w.heap.size w w' ∧ w'.heap.size = w.heap.size + 1 := by
  obtain ⟨D, ⟨es, clock, hb, F, hs, hD⟩, h2⟩ := h
  have hc := run_clone r w es clock hb
  have he : ∀ W : World, (binOp .eql 205 (.map (some r)) (.map none)).run Tryz.prog W = .ok (.bool false) W := fun W => eql_map 205 3 203 _ und107 W
  go_enter Tryz.func144, Tryz.ntmps144
  have ha : ∀ W : World, (Instr.typeAssert (.iface 205 (.map (some w.heap.size))) 20 205 false).run Tryz.prog W = .ok (.map (some w.heap.size)) W := fun W => assert107 _ W
  go_wp2
  go_ret
  refine ⟨rfl, ⟨D, ⟨es, clock, (MapKept.heap_alloc w _).1, F, hs, hD⟩, h2⟩, (Below.refl _ _).alloc (Nat.le_refl _) _, by simp⟩
end Go.Proofs.YticnmogeknlmeaaGreatDoor.B
namespace Go.Proofs.YticnmogeknlmeaaGreatDoor.B
open Go.RowKit Go.Maps Go.Proofs.YticnmogeknlmeaaGreatDoorW.PrintWords
theorem len_le (lo : Int) : ∀ (q : Nat) (l : List Int), l.Nodup → (∀ x ∈ l, lo ≤ x ∧ x < lo + q) → l.length ≤ q
  | 0, [], _, _ => Nat.le_refl _
  | 0, x :: l, _, h => by have := h x (by simp); omega
  | q + 1, l, hn, h => by
    have h1 := len_le lo q (l.erase (lo + q)) (hn.erase _) (fun x hx => by
      rw [hn.mem_erase_iff] at hx
      have := h x hx.2
      have := hx.1
      omega)
    have := List.length_erase (a := lo + q) (l := l)
    split at this <;> omega
section
variable {α : Type} {c : Cod α} {w w' : World} {b n r cnt : Nat} {f : Int → Option α} {left : Int → Bool}
theorem keys_int {D : DataW α} (h : w.ownsMap Tryz.prog 3 c.R b n D) : ∃ es : List (Lit × DataW α), D = .map es ∧ es.Pairwise (fun p q => p.1 ≠ q.1) ∧ ∀ p ∈ es, ∃ k, p.1 = kl k ∧ I64 k ∧ has D (kl k) = true := by
  have ht := h.tidy law3
  obtain ⟨es, clock, hb, F, hs, rfl⟩ := h
  refine ⟨_, rfl, ?_, fun p hp => ?_⟩
  · obtain ⟨es', e, hp⟩ := ht
    injection e with e
    rw [e]
    exact hp
  · have hp' := hp
    obtain ⟨x, hx, rfl⟩ := List.mem_map.1 (mem_sorted.1 hp)
    obtain ⟨y, hy⟩ := F.reads x hx
    have h1 : (WideElems.rg Tryz.prog 3 c.R x).1 = y.1 := by rw [WideElems.rg_of hy]
    obtain ⟨k, _, hk, hw⟩ := Maps.keyOf_int_inv und3 (WideElems.rd_key hy)
    have hw' : I64 k := by
      have : (decide (IntKind.i64.min ≤ k) && decide (k ≤ IntKind.i64.max)) = true := hw
      simp [IntKind.min, IntKind.max, IntKind.signed, IntKind.bits] at this
      exact this
    refine ⟨k, by rw [h1, hk]; rfl, hw', ?_⟩
    refine List.any_eq_true.2 ⟨_, hp', ?_⟩
    rw [h1, hk]
    exact WideAt.sameKey_self (kl_key hw')
theorem MapAt.size_dom {D : DataW α} (h1 : w.ownsMap Tryz.prog 3 c.R b n D) (h2 : Holds D f) {lo : Int} {q : Nat} (hd : ∀ k, I64 k → f k ≠ none → lo ≤ k ∧ k < lo + q) : Maps.size D ≤ q := by
  obtain ⟨es, rfl, hp, hk⟩ := keys_int h1
  have hget : ∀ p ∈ es, ∃ k, p.1 = kl k ∧ lo ≤ k ∧ k < lo + q := fun p hp => by
    obtain ⟨k, e, hi, hh⟩ := hk p hp
    exact ⟨k, e, hd k hi (fun hn => by rw [(h2 k hi).2 hn] at hh; cases hh)⟩
  let g : Lit → Int := fun l => match l with | .int _ k => k | _ => 0
  have := len_le lo q (es.map fun p => g p.1) (by
    refine List.pairwise_map.2 (hp.imp_of_mem (fun {p p'} m m' hne e => hne ?_))
    obtain ⟨k, e1, _⟩ := hget p m
    obtain ⟨k', e2, _⟩ := hget p' m'
    rw [e1, e2] at e ⊢
    have : k = k' := e
    rw [this]) (fun x hx => by
    obtain ⟨p, hp, rfl⟩ := List.mem_map.1 hx
    obtain ⟨k, e1, h⟩ := hget p hp
    rw [e1]
    exact h)
  rw [size_eq]
  simpa using this
theorem MapAt.tight (h : MapAt c w b n f) {lo : Int} {q : Nat} (hd : ∀ k, I64 k → f k ≠ none → lo ≤ k ∧ k < lo + q) : MapAt c w b q f := by
  obtain ⟨D, h1, h2⟩ := h
  refine ⟨D, ?_, h2⟩
  have hs := MapAt.size_dom h1 h2 hd
  obtain ⟨es, clock, hb, F, _, rfl⟩ := h1
  refine ⟨es, clock, hb, F, ?_, rfl⟩
  simpa [Maps.size, length_sorted] using hs
theorem MapAt.len {t e : TypeId} (h : MapAt c w b n f) (ht : Tryz.prog.underlying t = some (.map 3 e)) (ty : TypeId) : ∃ m : Nat, m ≤ n ∧ (Builtin.len_ #[t] ty #[.map (some b)]).run Tryz.prog w = .ok (.int .i64 m) w := by
  obtain ⟨D, h1, h2⟩ := h
  exact ⟨_, h1.size_le, h1.len ht ty⟩
/-- A range over map b, by the iterator r: who is left. -/
def RangeAt (c : Cod α) (w : World) (b r : Nat) (f : Int → Option α) (left : Int → Bool) (cnt : Nat) : Prop :=
  ∃ D n lf, w.ranges Tryz.prog 3 c.R b r n D lf cnt ∧ Holds D f ∧ ∀ k, I64 k → lf (kl k) = left k
theorem RangeAt.map (h : RangeAt c w b r f left cnt) : ∃ n, MapAt c w b n f := by
  obtain ⟨D, n, lf, h1, h2, _⟩ := h
  exact ⟨n, D, h1.owns, h2⟩
theorem RangeAt.left_eq (h : RangeAt c w b r f left cnt) : w.rangeLeft b r = cnt := by
  obtain ⟨D, n, lf, h1, _⟩ := h
  exact h1.left_eq
theorem RangeAt.lt (h : RangeAt c w b r f left cnt) : r < w.heap.size ∧ b < w.heap.size := by
  obtain ⟨D, n, lf, h1, _⟩ := h
  exact ⟨h1.lt, h1.owns.lt⟩
theorem RangeAt.kept (h : RangeAt c w b r f left cnt) (e1 : w'.heap[b]? = w.heap[b]?) (e2 : w'.heap[r]? = w.heap[r]?) : RangeAt c w' b r f left cnt := by
  obtain ⟨D, n, lf, ⟨es, clock, since, seen, c0, q1, q2, q3, q4, q5, q6⟩, h2⟩ := h
  exact ⟨D, n, lf, ⟨es, clock, since, seen, c0, e1.trans q1, q2, q3, q4, e2.trans q5, q6⟩, h2⟩
theorem RangeAt.below (h : RangeAt c w b r f left cnt) (hb : Below w.heap.size w w') : RangeAt c w' b r f left cnt := h.kept (hb.block b h.lt.2) (hb.block r h.lt.1)
theorem RangeAt.mut {S : Nat → Prop} (h : RangeAt c w b r f left cnt) (hm : Mut S w w') (h1 : ¬ S b) (h2 : ¬ S r) : RangeAt c w' b r f left cnt := h.kept (hm.block b h.lt.2 h1) (hm.block r h.lt.1 h2)
end
section
variable {α : Type} {c : Cod α} {P : Program} {w : World} {b n r cnt : Nat} {f : Int → Option α} {left : Int → Bool} {ops : Array Oper} {rest : List Oper} {o : Oper} {a : Act} {Q : Exit → Act → World → Prop}
theorem range_map (hg : o.guard = none) (m : Operand) (t : TypeId) (hop : o.op = Op.range t m) (e : TypeId) (ht : Tryz.prog.underlying t = some (.map 3 e)) (hm : a.eval m = .map (some b)) (h : MapAt c w b n f)
    (hK : ∀ w' cnt, cnt ≤ n → RangeAt c w' b w.heap.size f (fun k => (f k).isSome) cnt → Below w.heap.size w w' → w'.heap.size = w.heap.size + 1 → wpList Tryz.prog ops Q rest (a.put o.dst (.pointer (some ⟨w.heap.size, 0, none⟩))) w') :
    wpList Tryz.prog ops Q (o :: rest) a w := by
  obtain ⟨D, h1, h2⟩ := h
  refine wpList_range_own w hg m t hop 3 e law3 ht c.R b n D hm h1 (fun w' r1 r2 r3 => hK w' (Maps.size D) h1.size_le ⟨D, n, has D, r1, h2, fun k hk => ?_⟩ ⟨r2.os, r2.tape, r2.output, r2.size, fun i hi => r2.block i hi (by simp)⟩ r3)
  show has D (kl k) = (f k).isSome
  cases hf : f k with
  | none => exact (h2 k hk).2 hf
  | some u => exact ((h2 k hk).1 u hf).1
theorem next_map (hg : o.guard = none) (it : Operand) (hop : o.op = Op.next it false) (hit : a.eval it = .pointer (some ⟨r, 0, none⟩)) (h : RangeAt c w b r f left cnt)
    (hDone : (∀ k, I64 k → left k = false) → wpList Tryz.prog ops Q rest (a.put o.dst (.tuple #[.bool false])) w)
    (hMore : ∀ (x : Int) (v : α) (w' : World) (cnt' : Nat), I64 x → left x = true → f x = some v → RangeAt c w' b r f (fun z => left z && !(z == x)) cnt' → cnt' < cnt → Mut (fun i => i = r) w w' → w'.heap.size = w.heap.size →
      (Instr.entry (.pointer (some ⟨r, 0, none⟩))).run Tryz.prog w' = .ok (.tuple #[.int .i64 x, c.enc v]) w' → wpList Tryz.prog ops Q rest (a.put o.dst (.tuple #[.bool true, .int .i64 x, c.enc v])) w') :
    wpList Tryz.prog ops Q (o :: rest) a w := by
  obtain ⟨D, n, lf, h1, h2, h3⟩ := h
  refine wpList_next_ranges w hg it hop 3 law3 c.R (Value.int .i64) c.enc (fun key l hl => by obtain ⟨x, rfl, _⟩ := Maps.keyOf_int_inv und3 hl; exact ⟨x, rfl⟩) (fun v y hv => by obtain ⟨a, e, _⟩ := c.R_inv hv; exact ⟨a, e⟩) b r n D lf cnt hit h1
    (fun _ hl => hDone (fun k hk => by rw [← h3 k hk]; exact hl _)) ?_
  intro x v l y w' cnt' hkey hl hv hat hr hlt hgr hsz hen
  obtain ⟨x', ex, rfl, hw⟩ := Maps.keyOf_int_inv und3 hkey
  cases ex
  have hx : I64 x := by
    have : (decide (IntKind.i64.min ≤ x) && decide (x ≤ IntKind.i64.max)) = true := hw
    simp [IntKind.min, IntKind.max, IntKind.signed, IntKind.bits] at this
    exact this
  rw [c.R_enc] at hv
  obtain rfl := Option.some.inj hv
  have hf : f x = some v := by
    have hh : has D (kl x) = true := has_true_of_atKey hat
    cases hf : f x with
    | none => rw [(h2 x hx).2 hf] at hh; cases hh
    | some u =>
      have e1 := ((h2 x hx).1 u hf).2 .nil
      have e2 : D.atKey (kl x) .nil = .held v := hat .nil
      rw [e1] at e2
      rw [DataW.held.inj e2]
  refine hMore x v w' cnt' hx (by rw [← h3 x hx]; exact hl) hf ⟨D, n, _, hr, h2, fun k hk => ?_⟩ hlt ⟨hgr.os, hgr.tape, hgr.output, hgr.size, fun i hi hs => hgr.block i hi (fun e => hs (by injection e))⟩ hsz hen
  show (lf (kl k) && !(kl k).sameKey (kl x)) = (left k && !(k == x))
  rw [h3 k hk]
  by_cases e : k = x
  · subst e
    rw [WideAt.sameKey_self (kl_key hk)]
    simp
  · have hne : kl k ≠ kl x := fun h => e (kl_inj h)
    rw [sameKey_ne hne]
    simp [e]
end
end Go.Proofs.YticnmogeknlmeaaGreatDoor.B
namespace Go.Proofs.YticnmogeknlmeaaGreatDoor.B
open Go.RowKit Go.Maps Go.Proofs.YticnmogeknlmeaaGreatDoorW.PrintWords
section
variable {α : Type} {c : Cod α} {w : World} {b n : Nat} {f : Int → Option α} {ops : Array Oper} {rest : List Oper} {o : Oper} {a : Act} {Q : Exit → Act → World → Prop}
theorem update_map (hg : o.guard = none) (m x v : Operand) (t : TypeId) (hop : o.op = Op.mapUpdate t m x v) (e : TypeId) (ht : Tryz.prog.underlying t = some (.map 3 e)) (h : MapAt c w b n f) (hn : n < 1000000) (k : Int) (hk : I64 k) (u : α)
    (hm : a.eval m = .map (some b)) (hx : a.eval x = .int .i64 k) (hv : a.eval v = c.enc u)
    (hK : ∀ w', MapAt c w' b (n + 1) (up f k (some u)) → Mut (fun i => i = b) w w' → w'.heap.size = w.heap.size → wpList Tryz.prog ops Q rest (a.put o.dst undef) w') :
    wpList Tryz.prog ops Q (o :: rest) a w := by
  obtain ⟨w', r1, r2, r3, r4⟩ := h.put ht hn hk u
  refine wpList_plain hg fun K' hK' => ?_
  unfold Oper.wp
  simp [execOp, hop, hm, hx, hv, r1, Result.andThen]
  exact hK' _ _ (hK w' r2 (Mut.of_grown r3 rfl) r4)
end
/-- A space: how many pages it may have, whether it is sealed, what each page says. -/
structure Sp where
  q : Int
  sl : Bool
  pages : Int → Option ByteArray
abbrev Tree := Int → Option Sp
def WfT (T : Tree) : Prop := ∀ k sp, T k = some sp → 1 ≤ k ∧ k ≤ 15 ∧ 0 ≤ sp.q ∧ sp.q ≤ 1024 ∧ ∀ p s, sp.pages p = some s → 0 ≤ p ∧ p < sp.q
theorem WfT.i64 {T : Tree} (h : WfT T) {k : Int} {sp : Sp} (e : T k = some sp) : I64 k := by
  have := h k sp e
  constructor <;> omega
def PhysIn (base : Nat) (w : World) (tp : Nat) (T : Tree) (F : Int → Option (Int × Bool × Option Nat)) : Prop :=
  (∀ k, T k = none → F k = none) ∧
  (∀ k sp, T k = some sp → ∃ rp, F k = some (sp.q, sp.sl, some rp) ∧ base ≤ rp ∧ rp ≠ tp ∧ PagesAt w rp sp.pages) ∧
  (∀ k k' q s q' s' rp, F k = some (q, s, some rp) → F k' = some (q', s', some rp) → k = k')
/-- A tree in memory, all of it from block base on. -/
def TreeAt (base : Nat) (w : World) (tp : Nat) (T : Tree) : Prop := base ≤ tp ∧ ∃ F, MapAt codS w tp 15 F ∧ PhysIn base w tp T F
theorem PagesAt.lt {w : World} {rp : Nat} {pg : Int → Option ByteArray} (h : PagesAt w rp pg) : rp < w.heap.size := by obtain ⟨G, h, _⟩ := h; exact h.lt
theorem PagesAt.same {w w' : World} {rp : Nat} {pg : Int → Option ByteArray} (h : PagesAt w rp pg) (e : w'.heap[rp]? = w.heap[rp]?) : PagesAt w' rp pg := by
  obtain ⟨G, h1, h2⟩ := h
  exact ⟨G, h1.same e, h2⟩
theorem PhysIn.mut {S : Nat → Prop} {base tp : Nat} {w w' : World} {T : Tree} {F : Int → Option (Int × Bool × Option Nat)} (h : PhysIn base w tp T F) (hm : Mut S w w') (hS : ∀ k sp rp, T k = some sp → F k = some (sp.q, sp.sl, some rp) → ¬ S rp) : PhysIn base w' tp T F := by
  obtain ⟨h1, h2, h3⟩ := h
  refine ⟨h1, fun k sp hk => ?_, h3⟩
  obtain ⟨rp, e, hb, hne, hp⟩ := h2 k sp hk
  exact ⟨rp, e, hb, hne, hp.same (hm.block rp hp.lt (hS k sp rp hk e))⟩
theorem TreeAt.lt {base tp : Nat} {w : World} {T : Tree} (h : TreeAt base w tp T) : tp < w.heap.size := by obtain ⟨_, F, h, _⟩ := h; exact h.lt
theorem TreeAt.below {base tp : Nat} {w w' : World} {T : Tree} (h : TreeAt base w tp T) (hb : Below w.heap.size w w') : TreeAt base w' tp T := by
  obtain ⟨h0, F, h1, h2, h3, h4⟩ := h
  refine ⟨h0, F, h1.below hb, h2, fun k sp hk => ?_, h4⟩
  obtain ⟨rp, e, hbs, hne, hp⟩ := h3 k sp hk
  exact ⟨rp, e, hbs, hne, hp.same (hb.block rp hp.lt)⟩
/-- Rows of cells are no maps: what is done to them does not touch a tree. -/
theorem TreeAt.cellsMut {S : Nat → Prop} {base tp : Nat} {w w' : World} {T : Tree} (h : TreeAt base w tp T) (hm : Mut S w w') (hS : ∀ i, S i → ∀ es cl, w.heap[i]? ≠ some (.map es cl)) : TreeAt base w' tp T := by
  have hmap : ∀ {α : Type} {c : Cod α} {b n : Nat} {f : Int → Option α}, MapAt c w b n f → ¬ S b := fun {α c b n f} hM hs => by
    obtain ⟨D, ⟨es, cl, e, _⟩, _⟩ := hM
    exact hS _ hs es cl e
  obtain ⟨h0, F, h1, h2, h3, h4⟩ := h
  refine ⟨h0, F, h1.kept hm (hmap h1), h2, fun k sp hk => ?_, h4⟩
  obtain ⟨rp, e, hbs, hne, G, hp, hG⟩ := h3 k sp hk
  exact ⟨rp, e, hbs, hne, G, hp.kept hm (hmap hp), hG⟩
theorem TreeAt.lower {base b' tp : Nat} {w : World} {T : Tree} (h : TreeAt base w tp T) (hb : b' ≤ base) : TreeAt b' w tp T := by
  obtain ⟨h0, F, h1, h2, h3, h4⟩ := h
  refine ⟨by omega, F, h1, h2, fun k sp hk => ?_, h4⟩
  obtain ⟨rp, e, hbs, hne, hp⟩ := h3 k sp hk
  exact ⟨rp, e, by omega, hne, hp⟩
def CloneRel (w : World) (T : Tree) (tp : Nat) (F : Int → Option (Int × Bool × Option Nat)) (wr : World) : Prop :=
  ∃ (left : Int → Bool) (cnt n : Nat) (F' : Int → Option (Int × Bool × Option Nat)), RangeAt codS wr tp (w.heap.size + 1) F left cnt ∧ MapAt codS wr w.heap.size n F' ∧ n + cnt ≤ 15 ∧
    (∀ k, left k = true → F' k = none) ∧ (∀ k, T k = none → F' k = none) ∧
    (∀ k sp, T k = some sp → left k = false → ∃ rp, F' k = some (sp.q, sp.sl, some rp) ∧ w.heap.size + 2 ≤ rp ∧ PagesAt wr rp sp.pages) ∧
    (∀ k k' q s q' s' rp, F' k = some (q, s, some rp) → F' k' = some (q', s', some rp) → k = k') ∧
    (∀ k q s rp, F' k = some (q, s, some rp) → rp < wr.heap.size) ∧ Below w.heap.size w wr
set_option maxRecDepth 100000
set_option maxHeartbeats 1600000
theorem tclone_any (T : Tree) (hT : WfT T) (b0 tp : Nat) (w : World) (h : TreeAt b0 w tp T) : Calls Tryz.prog 136 #[.map (some tp)] w fun e w' => e = .returned (.map (some w.heap.size)) ∧ TreeAt w.heap.size w' w.heap.size T ∧ Below w.heap.size w w' := by
  have htp := h.lt
  obtain ⟨_, F, hM, hP1, hP2, hP3⟩ := h
  have HM := Lib.hid (hM.below ((Below.refl _ _).alloc (Nat.le_refl _) (.map #[] 0)))
  have hmm := @run_makeMap Tryz.prog
  go_enter Tryz.func136, Tryz.ntmps136
  go_wp2_with (first | (at_range; refine range_map rfl _ 116 rfl 207 und92 rfl HM.out ?_; intro w1 cnt hcnt hR hB hsz))
  go_frame
  have hsz0 : (w.alloc (.map #[] 0)).heap.size = w.heap.size + 1 := by simp
  rw [hsz0] at hR hsz ⊢
  have hB0 : Below w.heap.size w w1 := ((Below.refl w.heap.size w).alloc (Nat.le_refl _) (.map #[] 0)).trans (hB.mono (by omega))
  have hOut : MapAt codS w1 w.heap.size 0 (fun _ => none) := (MapAt.new codS w).below hB
  have HB0 := Lib.hid hB0
  have HR := Lib.hid hR
  have HO := Lib.hid hOut
  have HP1 := Lib.hid hP1
  have HP2 := Lib.hid hP2
  clear hB0 hR hOut hB hP1 hP2
  go_loopw [4] (fun _ wr => CloneRel w T tp F wr) (fun _ wr => wr.rangeLeft tp (w.heap.size + 1))
  case atStart =>
    refine ⟨_, cnt, 0, _, HR.out, HO.out, by omega, fun _ _ => rfl, fun _ _ => rfl, fun k sp hk hl => ?_, fun _ _ _ _ _ _ _ h => (by cases h), fun _ _ _ _ h => (by cases h), HB0.out⟩
    obtain ⟨rp, e, _⟩ := HP2.out k sp hk
    rw [e] at hl
    cases hl
  case round =>
    obtain ⟨left, c1, n, F', hR1, hO1, hnc, hl1, hl2, hl3, hl4, hl5, hB1⟩ := hrel
    have HR1 := Lib.hid hR1
    have HO1 := Lib.hid hO1
    have HL1 := Lib.hid hl1
    have HL2 := Lib.hid hl2
    have HL3 := Lib.hid hl3
    have HL4 := Lib.hid hl4
    have HL5 := Lib.hid hl5
    have HB1 := Lib.hid hB1
    clear hR1 hO1 hl1 hl2 hl3 hl4 hl5 hB1
    go_wp2_with (first | (at_next; refine next_map rfl _ rfl rfl HR1.out (fun hl0 => ?_) (fun x v w2 c2 hx hlx hfx hR2 hlt hM2 hs2 hen => ?_); rotate_left; (obtain ⟨sp, hsp⟩ : ∃ sp, T x = some sp := (by cases hT : T x with | none => (rw [HP1.out x hT] at hfx; cases hfx) | some sp => exact ⟨sp, rfl⟩); obtain ⟨rp, e, hrp0, hrpt, hpg⟩ := HP2.out x sp hsp; rw [e] at hfx; obtain rfl := Option.some.inj hfx; have HR2 := Lib.hid hR2; have HM2 := Lib.hid hM2; have HPG := Lib.hid hpg; have Hsp := Lib.hid hsp; have Hlx := Lib.hid hlx; clear hR2 hM2 hpg hsp e hlx hfx; simp only [codS] at hen ⊢); rotate_left))
    · go_ret
      refine ⟨rfl, ⟨Nat.le_refl _, F', HO1.out.mono (by omega), HL2.out, fun k sp hk => ?_, HL4.out⟩, HB1.out⟩
      obtain ⟨rp, e, h1, h2⟩ := HL3.out k sp hk (hl0 k (hT.i64 hk))
      exact ⟨rp, e, by omega, by omega, h2⟩
    · have hws : w.heap.size < wr.heap.size := HO1.out.lt
      have hwr : w.heap.size + 1 < wr.heap.size := HR1.out.lt.1
      have hB2 : Below w.heap.size w w2 := HB1.out.trans (HM2.out.below (by omega) (fun i hi e => by omega))
      have HB3 := Lib.hid (hB2.alloc (by omega) (.cells #[.int .i64 sp.q, .bool sp.sl, .map (some rp)] 207))
      obtain ⟨G, hG1, hG2⟩ := HPG.out
      have hG3 : MapAt codL (w2.alloc (.cells #[.int .i64 sp.q, .bool sp.sl, .map (some rp)] 207)) rp 1024 G := hG1.same (HB3.out.block rp hG1.lt)
      refine (clone_any codL rp 1024 G _ hG3).mono ?_
      have hbk := Blk.new w2 #[.int .i64 sp.q, .bool sp.sl, .map (some rp)] 207
      have hsz2 : (w2.alloc (.cells #[.int .i64 sp.q, .bool sp.sl, .map (some rp)] 207)).heap.size = wr.heap.size + 1 := by simp [hs2]
      rw [hs2] at hbk
      rw [hsz2]
      rintro e w3 ⟨rfl, hG4, hB4, hs3⟩
      have hbk3 := hbk.below (by rw [hsz2]; exact hB4)
      have HB5 := Lib.hid (HB3.out.trans (hB4.mono (by omega)))
      have d0 := hbk3.cell 0
      have d1 := hbk3.cell 1
      have d2 := hbk3.cell 2
      have f2 := hbk3.free 2
      simp at d0 d1 d2
      have hB24 : Below wr.heap.size w2 w3 := by
        rw [← hs2]
        exact ((Below.refl w2.heap.size w2).alloc (Nat.le_refl _) _).trans (hB4.mono (by omega))
      have HO4 := Lib.hid (((HO1.out.kept HM2.out (by omega)).same (hB24.block _ hws)).far (p := ⟨wr.heap.size, 2, none⟩) (by simp; omega) (.map (some (wr.heap.size + 1))))
      have HR4 := Lib.hid ((HR2.out.kept (hB24.block _ (Nat.lt_trans htp hws)) (hB24.block _ hwr)).kept (Below.heap_setCell w3 ⟨wr.heap.size, 2, none⟩ (.map (some (wr.heap.size + 1))) tp (by simp; omega)) (Below.heap_setCell w3 ⟨wr.heap.size, 2, none⟩ (.map (some (wr.heap.size + 1))) (w.heap.size + 1) (by simp; omega)))
      clear hB24 hbk3 hbk
      go_wp2_with (first | (at_mapUpdate; refine update_map rfl _ _ _ 116 rfl 207 und92 HO4.out (by omega) x hx (sp.q, sp.sl, some (wr.heap.size + 1)) rfl rfl rfl ?_; intro w5 hO5 hM5 hs5))
      go_light
      have hbw : Below wr.heap.size w2 w3 := by
        rw [← hs2]
        exact ((Below.refl w2.heap.size w2).alloc (Nat.le_refl _) _).trans (hB4.mono (by omega))
      have hR5 := HR4.out.mut hM5 (by omega) (by omega)
      have hs5' : w5.heap.size = wr.heap.size + 2 := by rw [hs5]; simp [World.setCell, hs3]
      have keep : ∀ i, i < wr.heap.size → i ≠ w.heap.size → i ≠ w.heap.size + 1 → w5.heap[i]? = wr.heap[i]? := fun i h1 h2 h3 => by
        rw [hM5.block i (by simp [World.setCell, hs3]; omega) h2, Below.heap_setCell w3 ⟨wr.heap.size, 2, none⟩ _ i (by simp; omega), hbw.block i h1, HM2.out.block i h1 h3]
      refine ⟨⟨_, _, _, _, _, _, _, _, _, _, _, _, _, _, ⟨_, c2, n + 1, _, hR5, hO5, by omega, fun k hk => ?_, fun k hk => ?_, fun k sp' hk hl => ?_, fun k k' q s q' s' rp1 e1 e2 => ?_, fun k q s rp1 e1 => ?_, ?_⟩, rfl⟩, ?_⟩
      · have hkx : k ≠ x := fun e => by subst e; simp at hk
        rw [up_other _ _ hkx]
        exact HL1.out k (by simp at hk; exact hk.1)
      · have hkx : k ≠ x := fun e => by subst e; rw [Hsp.out] at hk; cases hk
        rw [up_other _ _ hkx]
        exact HL2.out k hk
      · by_cases hkx : k = x
        · subst hkx
          rw [Hsp.out] at hk
          obtain rfl := Option.some.inj hk
          refine ⟨wr.heap.size + 1, up_same _ _ _, by omega, G, ?_, hG2⟩
          exact (hG4.far (p := ⟨wr.heap.size, 2, none⟩) (by simp) _).kept hM5 (by omega)
        · rw [up_other _ _ hkx]
          have hl' : left k = false := by simpa [hkx] using hl
          obtain ⟨rp1, e, h1, h2⟩ := HL3.out k sp' hk hl'
          exact ⟨rp1, e, h1, h2.same (keep _ h2.lt (by omega) (by omega))⟩
      · by_cases hkx : k = x
        · by_cases hkx' : k' = x
          · rw [hkx, hkx']
          · subst hkx
            rw [up_same] at e1
            rw [up_other _ _ hkx'] at e2
            have := HL5.out _ _ _ _ e2
            simp at e1
            omega
        · by_cases hkx' : k' = x
          · subst hkx'
            rw [up_same] at e2
            rw [up_other _ _ hkx] at e1
            have := HL5.out _ _ _ _ e1
            simp at e2
            omega
          · rw [up_other _ _ hkx] at e1
            rw [up_other _ _ hkx'] at e2
            exact HL4.out _ _ _ _ _ _ _ e1 e2
      · by_cases hkx : k = x
        · subst hkx
          rw [up_same] at e1
          simp at e1
          omega
        · rw [up_other _ _ hkx] at e1
          have := HL5.out _ _ _ _ e1
          omega
      · exact (HB5.out.setCell (p := ⟨wr.heap.size, 2, none⟩) (by simp; omega) _).trans (hM5.below (by simp [World.setCell, hs3]; omega) (fun i hi e => by omega))
      · rw [hR5.left_eq, HR1.out.left_eq]
        exact hlt
end Go.Proofs.YticnmogeknlmeaaGreatDoor.B
