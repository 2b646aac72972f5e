/-
  lives of layer 44 by a run. No condition.
-/
import Derived.Test.YtihmdlkbfpipeaaCeL
import Derived.Test.YtihmdlkbfpipeaaK3
namespace Go.Proofs.Ytihmdlkbfpipeaa
open Go.RowKit
theorem lpRuns : comesTrue Try.prog 100000 60 9 #[] = true := by kernel_rfl
end Go.Proofs.Ytihmdlkbfpipeaa
namespace Go.Proofs.Ytihmdlkbfpipeaa.V
open Go.RowKit
theorem lives44_fn : Fn Try.prog 9 [] fun d => d = boolD true := by
  refine ⟨⟨_, Try.func9, rfl⟩, fun w B args' hB hr => ?_⟩
  match args', hr with
  | _ :: _, hr => have := hr.1; simp at this
  | [], hr => exact (lives_of lpRuns w).mono fun e w' ⟨h1, h2⟩ => ⟨_, _, rfl, h1, h2, .v⟩
end Go.Proofs.Ytihmdlkbfpipeaa.V
