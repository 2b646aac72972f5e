/-
  lives of layer 24 by a run. No condition.
-/
import Derived.Test.YtjgihniedhmpeaaCeL
import Derived.Test.YtjgihniedhmpeaaK5
namespace Go.Proofs.Ytjgihniedhmpeaa
open Go.RowKit
theorem cacheRuns : comesTrue Try.prog 100000 60 13 #[] = true := by kernel_rfl
end Go.Proofs.Ytjgihniedhmpeaa
namespace Go.Proofs.Ytjgihniedhmpeaa.V
open Go.RowKit
theorem lives24_fn : Fn Try.prog 13 [] fun d => d = boolD true := by
  refine ⟨⟨_, Try.func13, rfl⟩, fun w B args' hB hr => ?_⟩
  match args', hr with
  | _ :: _, hr => have := hr.1; simp at this
  | [], hr => exact (lives_of cacheRuns w).mono fun e w' ⟨h1, h2⟩ => ⟨_, _, rfl, h1, h2, .v⟩
end Go.Proofs.Ytjgihniedhmpeaa.V
