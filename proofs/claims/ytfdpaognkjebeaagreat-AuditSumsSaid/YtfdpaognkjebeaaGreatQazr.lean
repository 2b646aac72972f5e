/-
  The audit's lives: the rest, run. Printed by a program (dev/chunk.sh). No condition.
-/
import Derived.Test.YtfdpaognkjebeaaGreatQaa
namespace Go.Proofs.YtfdpaognkjebeaaGreat
open Go.RowKit
theorem qaruns : memTrue Tryz.prog qatop 100000 60 17 #[] = true := by kernel_rfl
end Go.Proofs.YtfdpaognkjebeaaGreat
