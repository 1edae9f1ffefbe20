/- Helper: arguments that are plain data are opened by their types; what is read is a list, a number, a structure. No condition. -/
import Derived.Test.YticnmogeknlmeaaGreatDoorNWords
import Derived.Deep.Slices
import Derived.ChangeArms
import Derived.Carry
import Derived.Deep.Fields
import Derived.ChangeSame
namespace Go.Proofs.YticnmogeknlmeaaGreatDoor.Opens
open Go.ChangeShapes Go.WideShapes Go.RowKit Go.Deep Go.Proofs.YticnmogeknlmeaaGreatDoorW.PrintWords
/-- Whatever reads as data of a type lies in memory as a thing of a kind, and is well formed. -/
def Opens {α : Type} (P : Program) (t : TypeId) (d : Kd α) (wf : α → Prop) : Prop :=
  ∀ {H : Type} (enc : TypeId × Value → H) (w : World) (base : Nat) (spare : Nat → Bool) (held : Bool) (fuel : Nat) (cs : List Value) (x : DataW H × List MemPlace),
    DataW.trod enc P w base spare held fuel t cs = some x → ∃ v : α, d.K w v cs ∧ wf v
theorem opens_int {P : Program} {t : TypeId} {k : IntKind} (ht : P.underlying t = some (.int k)) : Opens P t (Kd.int k) (fun n => (Lit.int k n).wf = true) := by
  intro H enc w base spare held fuel cs x h
  obtain ⟨n, rfl, _, hw⟩ := DataW.trod_int ht h
  exact ⟨n, rfl, hw⟩
theorem opens_string {P : Program} {t : TypeId} (ht : P.underlying t = some .string) : Opens P t Kd.string (fun s => s.size ≤ maxLen) := by
  intro H enc w base spare held fuel cs x h
  obtain ⟨n, rfl, _, hs⟩ := DataW.trod_string ht h
  exact ⟨n, rfl, hs⟩
theorem opens_slice {α : Type} [Inhabited α] {P : Program} {t e : TypeId} {d : Kd α} {wf : α → Prop} (ht : P.underlying t = some (.slice e)) (hc : P.cellsOf e = d.sz) (ho : Opens P e d wf) :
    Opens P t (Kd.slice e d) (fun l => l.length ≤ maxLen ∧ ∀ x ∈ l, wf x) := by
  intro H enc w base spare held fuel cs x h
  rcases open_slice ht h with ⟨rfl, _⟩ | ⟨a, len, cap, m, n, D, Pl, rfl, _, hl, hm, hmm, _, hi⟩
  · exact ⟨[], ⟨none, 0, rfl, Nat.le_refl _, rfl, by simp, fun hh => by simp at hh⟩, by simp, fun x hx => by cases hx⟩
  · have hlm : len ≤ m := by rw [hmm]; split <;> omega
    have hmax : maxLen = 9223372036854775807 := by decide
    have key : ∀ i : Nat, i < len → ∃ y : α, wf y ∧ ∃ c, c.length = d.sz ∧ d.K w y c ∧ (∀ j u, c[j]? = some u → w.cell? (a.add (i * d.sz + j)) = some u) := by
      intro i hil
      obtain ⟨cs', hc', ht'⟩ := hi i (by omega)
      rw [hc] at hc'
      obtain ⟨y, hy, hwf⟩ := ho enc w base spare held n cs' _ ht'
      obtain ⟨_, hcl, hat⟩ := World.cells?_some hc'
      refine ⟨y, hwf, cs', hcl, hy, fun j u hj => ?_⟩
      have hjl := (List.getElem?_eq_some_iff.1 hj).1
      rw [← Go.Deep.add_add, hat j (by omega), hj]
    obtain ⟨F, hF⟩ := choose_lt key
    refine ⟨(List.range len).map F, ⟨some a, cap, by simp, by simpa using hl, by simp, by simp; omega, fun _ => ⟨a, rfl, fun j p hj => ?_⟩⟩, by simp; omega, fun y hy => ?_⟩
    · have hjl : j < len := by have := (List.getElem?_eq_some_iff.1 hj).1; simpa using this
      have hp : p = F j := by rw [List.getElem?_map, List.getElem?_range hjl] at hj; simpa using hj.symm
      subst hp
      obtain ⟨_, c, h1, h2, h3⟩ := hF j hjl
      exact ⟨c, h1, h2, h3⟩
    · obtain ⟨i, hi', rfl⟩ := List.mem_map.1 hy
      exact (hF i (List.mem_range.1 hi')).1
/-- Fields in line, from one place on. -/
def OpensFs {α : Type} (P : Program) (l : List Field) (off : Nat) (d : Kd α) (wf : α → Prop) : Prop :=
  ∀ {H : Type} (enc : TypeId × Value → H) (w : World) (base : Nat) (spare : Nat → Bool) (held : Bool) (n : Nat) (cs : List Value),
    (∀ f ∈ l, ∃ y : DataW H × List MemPlace, DataW.trod enc P w base spare held n f.type ((cs.drop f.offset).take (P.cellsOf f.type)) = some y) → ∃ v : α, d.K w v ((cs.drop off).take d.sz) ∧ wf v
theorem opens_one {α : Type} {P : Program} {f : Field} {d : Kd α} {wf : α → Prop} {off : Nat} (hof : f.offset = off) (hc : P.cellsOf f.type = d.sz) (ho : Opens P f.type d wf) : OpensFs P [f] off d wf := by
  subst hof
  intro H enc w base spare held n cs h
  obtain ⟨y, hy⟩ := h f (by simp)
  rw [hc] at hy
  exact ho enc w base spare held n _ y hy
theorem opens_cons {α β : Type} {P : Program} {f : Field} {l : List Field} {d : Kd α} {d' : Kd β} {wf : α → Prop} {wf' : β → Prop} {off : Nat} (hof : f.offset = off) (hc : P.cellsOf f.type = d.sz) (ho : Opens P f.type d wf)
    (hr : OpensFs P l (off + d.sz) d' wf') : OpensFs P (f :: l) off (Kd.pair d d') (fun v => wf v.1 ∧ wf' v.2) := by
  subst hof
  intro H enc w base spare held n cs h
  obtain ⟨y, hy⟩ := h f (by simp)
  rw [hc] at hy
  obtain ⟨v, hv, hwf⟩ := ho enc w base spare held n _ y hy
  obtain ⟨v', hv', hwf'⟩ := hr enc w base spare held n cs (fun g hg => h g (by simp [hg]))
  refine ⟨(v, v'), ⟨_, _, ?_, hv, hv'⟩, hwf, hwf'⟩
  show (cs.drop f.offset).take (d.sz + d'.sz) = _
  rw [List.take_add, List.drop_drop]
theorem opens_struct {α β : Type} {P : Program} {t : TypeId} {fs : Array Field} {d : Kd α} {wf : α → Prop} (f : β → α) (g : α → β) (hg : ∀ a, f (g a) = a) (ht : P.underlying t = some (.struct fs)) (hc : P.cellsOf t = d.sz)
    (ho : OpensFs P fs.toList 0 d wf) : Opens P t (Kd.iso d f) (fun b => wf (f b)) := by
  intro H enc w base spare held fuel cs x h
  obtain ⟨xs, n, _, _, hlen, hxl, hf⟩ := DataW.trod_struct ht h
  obtain ⟨v, hv, hwf⟩ := ho enc w base spare held n cs (fun f hfm => by
    obtain ⟨i, hi, rfl⟩ := List.mem_iff_getElem.1 hfm
    have hi' : i < fs.size := by simpa using hi
    have h2 := hf i fs[i] (by simp [hi'])
    refine ⟨xs[i]'(by omega), ?_⟩
    rw [Array.getElem_toList]
    rw [h2, List.getElem?_eq_getElem])
  refine ⟨g v, ?_, by show wf (f (g v)); rw [hg]; exact hwf⟩
  show d.K w (f (g v)) cs
  rw [hg]
  have : (cs.drop 0).take d.sz = cs := by rw [List.drop_zero, ← hc, ← hlen, List.take_length]
  rwa [this] at hv
theorem opens_weak {α : Type} {P : Program} {t : TypeId} {d : Kd α} {wf wf' : α → Prop} (h : Opens P t d wf) (hw : ∀ v, wf v → wf' v) : Opens P t d wf' := by
  intro H enc w base spare held fuel cs x hx
  obtain ⟨v, hv, hwf⟩ := h enc w base spare held fuel cs x hx
  exact ⟨v, hv, hw v hwf⟩
/-- An argument that is a slice. -/
theorem open_slice_arg {α : Type} {H : Type} {enc : TypeId × Value → H} {P : Program} {w : World} {base : Nat} {spare : Nat → Bool} {held : Bool} {t e : TypeId} {d : Kd α} {wf : List α → Prop} {A : Option Addr} {len cap : Nat} {dd : DataW H} {ps : List MemPlace}
    (ho : Opens P t (Kd.slice e d) wf) (h : DataW.Trod enc P w base spare held t (.slice A len cap) dd ps) : ∃ l : List α, len = l.length ∧ Kd.C d w A l.length l ∧ l.length ≤ cap ∧ wf l := by
  obtain ⟨fuel, hf⟩ := h
  obtain ⟨l, hl, hwf⟩ := ho enc w base spare held fuel _ _ hf
  obtain ⟨A', c', he, hc, hC⟩ := hl
  simp [Value.cells] at he
  obtain ⟨rfl, rfl, rfl⟩ := he
  exact ⟨l, rfl, hC, hc, hwf⟩
end Go.Proofs.YticnmogeknlmeaaGreatDoor.Opens
