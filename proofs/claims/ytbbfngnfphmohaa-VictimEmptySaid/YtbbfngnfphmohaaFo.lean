/- Helper: arguments that are slices of floats are opened. No condition. -/
import Derived.Test.YtbbfngnfphmohaaOpens
import Derived.Test.YtbbfngnfphmohaaFe
namespace Go.Proofs.Ytbbfngnfphmohaa.Opens
open Go.ChangeShapes Go.WideShapes Go.RowKit Go.Deep Go.Proofs.YtbbfngnfphmohaaW.PrintWords
theorem trod_float {H : Type} {enc : TypeId × Value → H} {P : Program} {w : World} {base : Nat} {spare : Nat → Bool} {held : Bool} {fuel : Nat} {t : TypeId} {cs : List Value} {x : DataW H × List MemPlace} {k : FloatKind}
    (ht : P.underlying t = some (.float k)) (h : DataW.trod enc P w base spare held fuel t cs = some x) : ∃ n, cs = [.float k n] := by
  cases fuel with
  | zero => simp [DataW.trod] at h
  | succ n =>
    unfold DataW.trod at h
    rw [ht] at h
    split at h <;> simp_all
theorem opens_float {P : Program} {t : TypeId} (ht : P.underlying t = some (.float .f64)) : Opens P t Fl.kf (fun _ => True) := by
  intro H enc w base spare held fuel cs x h
  obtain ⟨n, rfl⟩ := trod_float ht h
  exact ⟨n, rfl, trivial⟩
theorem floats_open : Opens Try.prog 39 (Kd.slice 33 Fl.kf) (fun l => l.length ≤ maxLen) :=
  opens_weak (opens_slice Try.underlying39 (by kernel_rfl) (opens_float Try.underlying33)) (fun _ h => h.1)
theorem cap_le {P : Program} {w : World} {t e : TypeId} {A : Option Addr} {len cap : Nat} {H : Type} {enc : TypeId × Value → H} {base : Nat} {spare : Nat → Bool} {held : Bool} {d : DataW H} {ps : List MemPlace} (ht : P.underlying t = some (.slice e))
    (h : DataW.Trod enc P w base spare held t (.slice A len cap) d ps) : cap ≤ 9223372036854775807 := by
  have hm : maxLen = 9223372036854775807 := by decide
  obtain ⟨fuel, hf⟩ := h
  rcases open_slice ht hf with ⟨h1, _⟩ | ⟨a, len', cap', m, n, D, Pl, h1, _, hl, hc, _⟩
  · simp [Value.cells] at h1
    omega
  · simp [Value.cells] at h1
    omega
end Go.Proofs.Ytbbfngnfphmohaa.Opens
