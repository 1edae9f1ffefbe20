/- Helper: arguments that are slices of what is seen of blocks are opened. No condition. -/
import Derived.Test.YtbbfngnfphmohaaFo
import Derived.Test.YtbbfngnfphmohaaVd
namespace Go.Proofs.Ytbbfngnfphmohaa.Opens
open Go.ChangeShapes Go.WideShapes Go.RowKit Go.Deep Go.Proofs.YtbbfngnfphmohaaW.PrintWords
theorem seen_open : Opens Try.prog 45 (Kd.slice 48 Fl.ks) (fun l => l.length ≤ maxLen ∧ ∀ x ∈ l, (Lit.int .i64 x.live).wf = true ∧ (Lit.int .i64 x.age).wf = true) :=
  opens_weak (opens_slice Try.underlying45 (by kernel_rfl) (opens_struct (fun x : Fl.Seen => (x.blk, x.live, x.pages, x.age)) (fun p => ⟨p.1, p.2.1, p.2.2.1, p.2.2.2⟩) (fun _ => rfl) Try.underlying48 (by kernel_rfl)
    (opens_cons rfl (by kernel_rfl) (opens_int Try.underlying3) (opens_cons rfl (by kernel_rfl) (opens_int Try.underlying3) (opens_cons rfl (by kernel_rfl) (opens_int Try.underlying3) (opens_one rfl (by kernel_rfl) (opens_int Try.underlying3)))))))
    (fun _ h => ⟨h.1, fun x hx => ⟨(h.2 x hx).2.1, (h.2 x hx).2.2.2⟩⟩)
end Go.Proofs.Ytbbfngnfphmohaa.Opens
