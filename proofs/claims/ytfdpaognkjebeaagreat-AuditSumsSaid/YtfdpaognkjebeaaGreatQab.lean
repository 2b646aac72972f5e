/-
  The audit's lives: some of its calls, run. Printed by a program (dev/chunk.sh). No condition.
-/
import Derived.Test.YtfdpaognkjebeaaGreatQaa
namespace Go.Proofs.YtfdpaognkjebeaaGreat
open Go.RowKit
/-- linkboy/ring.Ring.Room -/
theorem qar53 : memoRuns Tryz.prog qat53 100000 60 126 qaa53 qab53 qav53 qac53 = true := by kernel_rfl
/-- linkboy/ring.Ring.Room -/
theorem qar69 : memoRuns Tryz.prog qat69 100000 60 126 qaa69 qab69 qav69 qac69 = true := by kernel_rfl
/-- linkboy/nic.Card.fill -/
theorem qar52 : memoRuns Tryz.prog qat52 100000 60 78 qaa52 qab52 qav52 qac52 = true := by kernel_rfl
end Go.Proofs.YtfdpaognkjebeaaGreat
