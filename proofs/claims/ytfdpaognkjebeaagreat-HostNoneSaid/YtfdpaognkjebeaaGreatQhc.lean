/-
  The balancer's lives: some of its calls, run. Printed by a program (dev/chunk.sh). No condition.
-/
import Derived.Test.YtfdpaognkjebeaaGreatQha
namespace Go.Proofs.YtfdpaognkjebeaaGreat
open Go.RowKit
/-- linkboy/ring.Ring.Room -/
theorem qhr196 : memoRuns Tryz.prog qht196 100000 60 126 qha196 qhb196 qhv196 qhc196 = true := by kernel_rfl
/-- linkboy/ring.Ring.Room -/
theorem qhr212 : memoRuns Tryz.prog qht212 100000 60 126 qha212 qhb212 qhv212 qhc212 = true := by kernel_rfl
/-- linkboy/nic.Card.fill -/
theorem qhr195 : memoRuns Tryz.prog qht195 100000 60 78 qha195 qhb195 qhv195 qhc195 = true := by kernel_rfl
end Go.Proofs.YtfdpaognkjebeaaGreat
