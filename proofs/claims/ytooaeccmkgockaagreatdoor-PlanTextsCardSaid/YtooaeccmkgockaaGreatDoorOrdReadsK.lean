/-
  Orders that come in, read by value. No condition beyond the reading.
-/
import Derived.Test.YtooaeccmkgockaaGreatDoorReads
import Derived.Test.YtooaeccmkgockaaGreatDoorK3
namespace Go.Proofs.YtooaeccmkgockaaGreatDoor.V
open Go.ChangeShapes Go.WideShapes Go.ChangeAt Go.RowKit

instance : Inhabited Ord := ⟨⟨0, 0, 0, 0, 0, 0, 0, 0⟩⟩
end Go.Proofs.YtooaeccmkgockaaGreatDoor.V
