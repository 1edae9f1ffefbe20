/- Helper: a statement whose order is open, all of whose operations read what was there, or call what hands back one value and leaves what was there alone: one walk serves every order. No condition. -/
import Derived.WalkKit
import Derived.Below
import Derived.WalkSmall
import Derived.Deep.Quiet
import Derived.Deep.QuietTactic
import Derived.BigQuiet
namespace Go.Proofs.Yteilmbhnbmmcjaa.Later
open Go.RowKit
/-- A world in which all that was there is there yet. -/
def LaterOf (w : World) : Type := { w' : World // Below w.heap.size w w' }
instance later_some (w : World) : Nonempty (LaterOf w) := ⟨⟨w, Below.refl _ _⟩⟩
def later (w : World) (n : LaterOf w) : World := n.val
theorem later_below {w : World} (n : LaterOf w) : Below w.heap.size w (later w n) := n.property
theorem later_of {w w' : World} (h : ∃ n : LaterOf w, w' = later w n) : Below w.heap.size w w' := by
  obtain ⟨n, rfl⟩ := h
  exact n.property
theorem later_cell {w : World} {a : Addr} {v : Value} (h : w.cell? a = some v) (n : LaterOf w) : (later w n).cell? a = some v := (n.property.cell (World.block_lt_of_cell? w a h)).trans h
theorem wp_region_later {P : Program} {id : Nat} {Q : Exit → Act → World → Prop} {a : Act} {w : World} {l : List Oper} (hm : P.follows .mixedOrders = true) (hB : Region.lexB .any l.toArray = true)
    (h : wpQuiet P l.toArray (fun w' => ∃ n : LaterOf w, w' = later w n) (fun a' => ∀ w', (∃ n : LaterOf w, w' = later w n) → Q .normal a' w') l a) : (Code.region id l.toArray true).wp P Q a w :=
  wp_region_quiet (C := fun w' => ∃ n : LaterOf w, w' = later w n) hm hB ⟨⟨_, below_drewN (Below.refl _ w) 1⟩, rfl⟩ (by simpa using h)
theorem calls_later {P : Program} {f : FuncId} {args : Array Value} {w : World} {v : Value} (h : ∀ w1, Below w.heap.size w w1 → Calls P f args w1 fun e w' => e = .returned v ∧ Below w1.heap.size w1 w') (n : LaterOf w) :
    Calls P f args (later w n) fun e w'' => e = .returned v ∧ ∃ m : LaterOf w, w'' = later w m :=
  (h _ n.property).mono fun _ w'' ⟨he, hb⟩ => ⟨he, ⟨w'', n.property.trans (hb.mono n.property.size)⟩, rfl⟩
theorem calls_later_same {P : Program} {f : FuncId} {args : Array Value} {w : World} {v : Value} (h : ∀ w1, Below w.heap.size w w1 → Calls P f args w1 fun e w' => e = .returned v ∧ w1 = w') (n : LaterOf w) :
    Calls P f args (later w n) fun e w'' => e = .returned v ∧ ∃ m : LaterOf w, w'' = later w m :=
  (h _ n.property).mono fun _ _ ⟨he, hb⟩ => ⟨he, n, hb.symm⟩
end Go.Proofs.Yteilmbhnbmmcjaa.Later
