/-
  The audit's lives: some of its calls, run. Printed by a program (dev/chunk.sh). No condition.
-/
import Derived.Test.YtfdpaognkjebeaaGreatQaa
namespace Go.Proofs.YtfdpaognkjebeaaGreat
open Go.RowKit
/-- linkboy/audit.Look -/
theorem qar337 : memoRuns Tryz.prog qat337 100000 60 37 qaa337 qab337 qav337 qac337 = true := by kernel_rfl
/-- linkboy/audit.Look -/
theorem qar436 : memoRuns Tryz.prog qat436 100000 60 37 qaa436 qab436 qav436 qac436 = true := by kernel_rfl
end Go.Proofs.YtfdpaognkjebeaaGreat
