/- Helper: pages, spaces, trees in memory; a map's clone, walked. No condition. -/
import Derived.Test.YteilmbhnbmmcjaaMa
import Derived.WalkSpells
import Derived.Deep.Light
namespace Go.Proofs.Yteilmbhnbmmcjaa.B
open Go.RowKit Go.Maps Go.Proofs.YteilmbhnbmmcjaaW.PrintWords
set_option maxRecDepth 100000
set_option maxHeartbeats 800000
def codL : Cod (ByteArray × Int) where
  enc := fun a => .agg #[.string a.1, .int .i64 a.2]
  dec := fun v => match v with
    | .agg ⟨[.string s, .int .i64 n]⟩ => some (s, n)
    | _ => none
  fit := fun _ => rfl
  inv := by
    intro v a h
    split at h
    · obtain rfl := Option.some.inj h; rfl
    · cases h
def codS : Cod (Int × Bool × Option Nat) where
  enc := fun a => .agg #[.int .i64 a.1, .bool a.2.1, .map a.2.2]
  dec := fun v => match v with
    | .agg ⟨[.int .i64 q, .bool s, .map o]⟩ => some (q, s, o)
    | _ => none
  fit := fun _ => rfl
  inv := by
    intro v a h
    split at h
    · obtain rfl := Option.some.inj h; rfl
    · cases h
def codB : Cod Bool where
  enc := fun a => .bool a
  dec := fun v => match v with
    | .bool a => some a
    | _ => none
  fit := fun _ => rfl
  inv := by
    intro v a h
    split at h
    · obtain rfl := Option.some.inj h; rfl
    · cases h
theorem und92 : Try.prog.underlying 92 = some (.map 3 109) := by kernel_rfl
theorem und107 : Try.prog.underlying 107 = some (.map 3 111) := by kernel_rfl
theorem und157 : Try.prog.underlying 157 = some (.map 3 4) := by kernel_rfl
theorem zero109 (w : World) : (zeroValue 109).run Try.prog w = .ok (codS.enc (0, false, none)) w := by kernel_rfl
theorem zero111 (w : World) : (zeroValue 111).run Try.prog w = .ok (codL.enc (⟨#[]⟩, 0)) w := by kernel_rfl
/-- Pages, as they are seen: what each says. -/
def PagesAt (w : World) (rp : Nat) (pg : Int → Option ByteArray) : Prop :=
  ∃ G : Int → Option (ByteArray × Int), MapAt codL w rp 1024 G ∧ (∀ p, (G p).map (·.1) = pg p) ∧ ∀ p s n, G p = some (s, n) → I64 n
theorem run_clone (r : Nat) (w : World) (es : Array MapEntry) (clock : Nat) (h : w.heap[r]? = some (.map es clock)) : (callFunc 92 #[.iface 107 (.map (some r))]).run Try.prog w = .ok (.value (.iface 107 (.map (some w.heap.size)))) (w.alloc (.map es clock)) := by
  rw [run_callFunc_extern (e := Extern.MapsClone.clone) Try.func92 (by kernel_rfl) (by kernel_rfl) (by kernel_rfl) (by kernel_rfl) _ w]
  have e : Extern.MapsClone.clone #[.iface 107 (.map (some r))] = (do
    let .map entries clock ← getObj r | stuck "maps.clone: a map expected"
    pure (.iface 107 (.map (some (← newObj (.map entries clock)))))) := rfl
  rw [e]
  simp [MapKept.run_getObj_map h, Result.andThen, newObj]
  rfl
theorem eql_map (t : TypeId) (k e : TypeId) (o : Option Nat) (ht : Try.prog.underlying t = some (.map k e)) (w : World) : (binOp .eql t (.map o) (.map none)).run Try.prog w = .ok (.bool o.isNone) w := run_eql_map_nil w t k e o ht
theorem assert107 (x : Value) (W : World) : (Instr.typeAssert (.iface 107 x) 20 107 false).run Try.prog W = .ok x W := by kernel_rfl
theorem clone_any {α : Type} (c : Cod α) (r n : Nat) (f : Int → Option α) (w : World) (h : MapAt c w r n f) : Calls Try.prog 72 #[.map (some r)] w fun e w' => e = .returned (.map (some w.heap.size)) ∧ MapAt c w' w.heap.size n f ∧ Below w.heap.size w w' ∧ w'.heap.size = w.heap.size + 1 := by
  obtain ⟨D, ⟨es, clock, hb, F, hs, hD⟩, h2⟩ := h
  have hc := run_clone r w es clock hb
  have he : ∀ W : World, (binOp .eql 107 (.map (some r)) (.map none)).run Try.prog W = .ok (.bool false) W := fun W => eql_map 107 3 111 _ und107 W
  go_enter Try.func72, Try.ntmps72
  have ha : ∀ W : World, (Instr.typeAssert (.iface 107 (.map (some w.heap.size))) 20 107 false).run Try.prog W = .ok (.map (some w.heap.size)) W := fun W => assert107 _ W
  go_wp2
  go_ret
  refine ⟨rfl, ⟨D, ⟨es, clock, (MapKept.heap_alloc w _).1, F, hs, hD⟩, h2⟩, (Below.refl _ _).alloc (Nat.le_refl _) _, by simp⟩
end Go.Proofs.Yteilmbhnbmmcjaa.B
