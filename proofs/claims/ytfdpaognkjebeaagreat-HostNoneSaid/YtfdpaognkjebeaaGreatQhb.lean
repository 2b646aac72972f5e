/-
  The balancer's lives: some of its calls, run. Printed by a program (dev/chunk.sh). No condition.
-/
import Derived.Test.YtfdpaognkjebeaaGreatQha
namespace Go.Proofs.YtfdpaognkjebeaaGreat
open Go.RowKit
/-- linkboy/ring.Ring.Room -/
theorem qhr53 : memoRuns Tryz.prog qht53 100000 60 126 qha53 qhb53 qhv53 qhc53 = true := by kernel_rfl
/-- linkboy/ring.Ring.Room -/
theorem qhr69 : memoRuns Tryz.prog qht69 100000 60 126 qha69 qhb69 qhv69 qhc69 = true := by kernel_rfl
/-- linkboy/nic.Card.fill -/
theorem qhr52 : memoRuns Tryz.prog qht52 100000 60 78 qha52 qhb52 qhv52 qhc52 = true := by kernel_rfl
end Go.Proofs.YtfdpaognkjebeaaGreat
