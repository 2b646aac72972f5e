/-
  The balancer's lives: the rest, run. Printed by a program (dev/chunk.sh). No condition.
-/
import Derived.Test.YtfdpaognkjebeaaGreatQha
namespace Go.Proofs.YtfdpaognkjebeaaGreat
open Go.RowKit
theorem qhruns : memTrue Tryz.prog qhtop 100000 60 13 #[] = true := by kernel_rfl
end Go.Proofs.YtfdpaognkjebeaaGreat
