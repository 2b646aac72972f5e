/-
  A law that answers true whatever its arguments are, as the run on abstract memory shows: the row's walk. Conditions: the same as of the run.
-/
import Derived.Test.YtbjhkhhbdlnfbaaGreatDoorCeK
import Derived.Test.YtbjhkhhbdlnfbaaGreatDoorLaw
namespace Go.Proofs.YtbjhkhhbdlnfbaaGreatDoor
open Go.ChangeShapes Go.WideShapes Go.ChangeAt Go.RowKit

theorem law_zeros : zerosOk Tryz.prog = true := by kernel_rfl
theorem law_calls : callsOk Tryz.prog = true := by kernel_rfl
theorem law_mixed : Tryz.prog.follows .mixedOrders = true := by kernel_rfl

end Go.Proofs.YtbjhkhhbdlnfbaaGreatDoor
