/-
  The orders that make a farm into another one: the document's. Conditions: short rows.
-/
import Derived.Test.YtghfefkmmobmgaaGreatFrK
import Derived.Test.YtghfefkmmobmgaaGreatK1
namespace Go.Proofs.YtghfefkmmobmgaaGreat.V
open Go.RowKit
attribute [local irreducible] Fn CallVC OpVC

/-- Does a backend go? -/
def leavesB (x : Back) (B : List Back) : Bool := match getAt (fun b : Back => decide (b.id = x.id)) B with
  | none => true
  | some y => !decide (y.vip = x.vip) || (!decide (y.addr = x.addr) || (decide (x.life = 2) && decide (y.life = 1)))

end Go.Proofs.YtghfefkmmobmgaaGreat.V
