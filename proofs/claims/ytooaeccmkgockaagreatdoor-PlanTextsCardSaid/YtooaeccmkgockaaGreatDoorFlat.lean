/-
  What a struct, an array or a slice element that reads as a datum holds in each of its cells. No condition beyond the reading itself.
-/
import Derived.WalkKit
import Derived.ProofKit
import Derived.OpenShut
import Derived.Deep.Slices
namespace Go.Proofs.YtooaeccmkgockaaGreatDoor
open Go.ChangeShapes Go.WideShapes Go.ChangeAt Go.RowKit

def fieldAt (P : Program) (off : Nat) : List Field → Nat → Option (Nat × Field)
  | [], _ => none
  | f :: fs, i => if f.offset ≤ off ∧ off < f.offset + P.cellsOf f.type then some (i, f) else fieldAt P off fs (i + 1)

section
variable {H : Type} {enc : TypeId × Value → H} {P : Program} {w : World} {base : Nat} {spare : Nat → Bool} {held : Bool}

end
end Go.Proofs.YtooaeccmkgockaaGreatDoor
