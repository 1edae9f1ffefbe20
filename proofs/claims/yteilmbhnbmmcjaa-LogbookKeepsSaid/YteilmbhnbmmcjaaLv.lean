/- Helper: arguments that are slices of what is to be noted are opened. No condition. -/
import Derived.Test.YteilmbhnbmmcjaaOpens
import Derived.Test.YteilmbhnbmmcjaaLt
namespace Go.Proofs.Yteilmbhnbmmcjaa.Opens
open Go.ChangeShapes Go.WideShapes Go.RowKit Go.Deep Go.Proofs.YteilmbhnbmmcjaaW.PrintWords
theorem add_open : Opens Try.prog 22 (Kd.slice 38 B.adK) (fun l => l.length ≤ maxLen ∧ ∀ x ∈ l, (Lit.int .i64 x.k).wf = true ∧ x.t.size ≤ maxLen) :=
  opens_slice Try.underlying22 (by kernel_rfl) (opens_struct (fun x : B.Ad => (x.k, x.t)) (fun p => ⟨p.1, p.2⟩) (fun _ => rfl) Try.underlying38 (by kernel_rfl)
    (opens_cons rfl (by kernel_rfl) (opens_int Try.underlying3) (opens_one rfl (by kernel_rfl) (opens_string Try.underlying9))))
end Go.Proofs.Yteilmbhnbmmcjaa.Opens
