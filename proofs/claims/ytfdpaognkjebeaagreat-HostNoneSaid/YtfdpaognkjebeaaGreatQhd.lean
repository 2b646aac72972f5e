/-
  The balancer's lives: some of its calls, run. Printed by a program (dev/chunk.sh). No condition.
-/
import Derived.Test.YtfdpaognkjebeaaGreatQha
namespace Go.Proofs.YtfdpaognkjebeaaGreat
open Go.RowKit
/-- linkboy/host.New -/
theorem qhr2 : memoRuns Tryz.prog qht2 100000 60 34 qha2 qhb2 qhv2 qhc2 = true := by kernel_rfl
/-- linkboy/host.Host.handle -/
theorem qhr424 : memoRuns Tryz.prog qht424 100000 60 41 qha424 qhb424 qhv424 qhc424 = true := by kernel_rfl
end Go.Proofs.YtfdpaognkjebeaaGreat
