/-
  A law that answers true whatever its arguments are, as the run on abstract memory shows: the row's walk. Conditions: the same as of the run.
-/
import Derived.Test.YtjgihniedhmpeaaCeK
import Derived.Test.YtjgihniedhmpeaaLaw
namespace Go.Proofs.Ytjgihniedhmpeaa
open Go.ChangeShapes Go.WideShapes Go.ChangeAt Go.RowKit

theorem law_zeros : zerosOk Try.prog = true := by kernel_rfl
theorem law_calls : callsOk Try.prog = true := by kernel_rfl
theorem law_mixed : Try.prog.follows .mixedOrders = true := by kernel_rfl

set_option maxRecDepth 100000 in
theorem lives_of {f : FuncId} {steps d : Nat} (h : comesTrue Try.prog steps d f #[] = true) (w : World) : Calls Try.prog f #[] w fun e w' => e = .returned (.bool true) ∧ V.Under w.heap.size w w' :=
  comes_true law_zeros law_calls law_mixed steps d f h w (fun _ => .bool false) (fun _ => rfl) ⟨rfl, fun i v v' hv _ => by simp at hv⟩

end Go.Proofs.Ytjgihniedhmpeaa
