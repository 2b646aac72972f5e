/-
  A law that answers true whatever its arguments are, as the run on abstract memory shows: the row's walk. Conditions: the same as of the run.
-/
import Derived.Test.YtfghccppoilfhaaCeK
import Derived.Test.YtfghccppoilfhaaLaw
namespace Go.Proofs.Ytfghccppoilfhaa
open Go.ChangeShapes Go.WideShapes Go.ChangeAt Go.RowKit

theorem law_zeros : zerosOk Try.prog = true := by kernel_rfl
theorem law_calls : callsOk Try.prog = true := by kernel_rfl
theorem law_mixed : Try.prog.follows .mixedOrders = true := by kernel_rfl

theorem asks_of {f : FuncId} {steps d : Nat} {orc : Oracle} (ho : OracleOk Try.prog (fun _ => True) orc) (h : asksTrue Try.prog orc steps d f #[] = true) (w : World) : Calls Try.prog f #[] w fun e w' => e = .returned (.bool true) ∧ V.Under w.heap.size w w' :=
  asks_true law_zeros law_calls law_mixed ho steps d f h w (fun _ => .bool false) (fun _ => rfl) trivial ⟨rfl, fun i v v' hv _ => by simp at hv⟩

end Go.Proofs.Ytfghccppoilfhaa
