/-
  The audit's lives: some of its calls, run. Printed by a program (dev/chunk.sh). No condition.
-/
import Derived.Test.YtfdpaognkjebeaaGreatQaa
namespace Go.Proofs.YtfdpaognkjebeaaGreat
open Go.RowKit
/-- linkboy/ring.Ring.Room -/
theorem qar196 : memoRuns Tryz.prog qat196 100000 60 126 qaa196 qab196 qav196 qac196 = true := by kernel_rfl
/-- linkboy/ring.Ring.Room -/
theorem qar212 : memoRuns Tryz.prog qat212 100000 60 126 qaa212 qab212 qav212 qac212 = true := by kernel_rfl
/-- linkboy/nic.Card.fill -/
theorem qar195 : memoRuns Tryz.prog qat195 100000 60 78 qaa195 qab195 qav195 qac195 = true := by kernel_rfl
end Go.Proofs.YtfdpaognkjebeaaGreat
