/-
  The walks of Special of layer 3, of the program and of the reference. Condition: an address is a u32.
-/
import Derived.Test.YtghfefkmmobmgaaGreatRow
import Derived.Test.YtghfefkmmobmgaaGreatProg
import Derived.LoopTactic
import Derived.Handy
namespace Go.Proofs.YtghfefkmmobmgaaGreat
open Go.RowKit

def specB (a : Int) : Bool := a == 0 || a / 16777216 == 127 || decide (224 ≤ a / 16777216)

set_option maxHeartbeats 400000 in
theorem special_any (a : Int) (w : World) (_h0 : 0 ≤ a) (_h1 : a ≤ 4294967295) :
    Calls Tryz.prog 47 #[.int .u32 a] w fun e w' => e = .returned (.bool (specB a)) ∧ w = w' := by
  go_enter Tryz.func47, Tryz.ntmps47
  go_wp2
  all_goals
    go_ret
    refine ⟨ret_bool ?_, rfl⟩
    go_light
    grind [specB]

set_option maxHeartbeats 400000 in
theorem rspecial_any (a : Int) (w : World) (_h0 : 0 ≤ a) (_h1 : a ≤ 4294967295) :
    Calls Tryz.prog 60 #[.int .u32 a] w fun e w' => e = .returned (.bool (specB a)) ∧ w = w' := by
  go_enter Tryz.func60, Tryz.ntmps60
  go_wp2
  all_goals
    go_ret
    refine ⟨ret_bool ?_, rfl⟩
    go_light
    grind [specB]

end Go.Proofs.YtghfefkmmobmgaaGreat
