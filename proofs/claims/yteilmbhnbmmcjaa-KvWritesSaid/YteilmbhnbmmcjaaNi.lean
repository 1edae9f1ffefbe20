/- Helper: arguments that are pairs, or acts of pairs, are opened. No condition. -/
import Derived.Test.YteilmbhnbmmcjaaOpens
import Derived.Test.YteilmbhnbmmcjaaNf
namespace Go.Proofs.Yteilmbhnbmmcjaa.Opens
open Go.ChangeShapes Go.WideShapes Go.RowKit Go.Deep Go.Proofs.YteilmbhnbmmcjaaW.PrintWords
theorem pr_open : Opens Try.prog 63 B.prK (fun x => B.Fine x) :=
  opens_weak (opens_struct (fun x : B.Pr => (B.bs x.k, B.bs x.v)) (fun p => ⟨p.1.data.toList, p.2.data.toList⟩) (fun p => by simp only [B.bs_of]) Try.underlying63 (by kernel_rfl)
    (opens_cons rfl (by kernel_rfl) (opens_string Try.underlying9) (opens_one rfl (by kernel_rfl) (opens_string Try.underlying9)))) (fun v h => by
      obtain ⟨h1, h2⟩ := h
      simp only [B.bs_size, maxLen] at h1 h2
      exact ⟨h1, h2⟩)
theorem prs_open : Opens Try.prog 58 (Kd.slice 63 B.prK) (fun l => l.length ≤ maxLen ∧ ∀ x ∈ l, B.Fine x) := opens_slice Try.underlying58 (by kernel_rfl) pr_open
theorem acs_open : Opens Try.prog 66 (Kd.slice 68 B.acK) (fun l => l.length ≤ maxLen ∧ ∀ x ∈ l, (Lit.int .i64 x.k).wf = true ∧ (x.l.length ≤ maxLen ∧ ∀ y ∈ x.l, B.Fine y)) :=
  opens_slice Try.underlying66 (by kernel_rfl) (opens_struct (fun x : B.Ac => (x.k, x.l)) (fun p => ⟨p.1, p.2⟩) (fun _ => rfl) Try.underlying68 (by kernel_rfl)
    (opens_cons rfl (by kernel_rfl) (opens_int Try.underlying3) (opens_one rfl (by kernel_rfl) prs_open)))
end Go.Proofs.Yteilmbhnbmmcjaa.Opens
