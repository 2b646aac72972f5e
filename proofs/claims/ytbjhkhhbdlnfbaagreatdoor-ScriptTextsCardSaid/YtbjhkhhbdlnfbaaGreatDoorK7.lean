/-
  The script's lives: some of its calls, run. Printed by a program (dev/chunk.sh). No condition.
  The script's lives: some of its calls, run. Printed by a program (dev/chunk.sh). No condition.
  The script's lives: some of its calls, run. Printed by a program (dev/chunk.sh). No condition.
-/
import Derived.Test.YtbjhkhhbdlnfbaaGreatDoorQsaK
namespace Go.Proofs.YtbjhkhhbdlnfbaaGreatDoor
open Go.RowKit
theorem qsr90 : memoRuns Tryz.prog qst90 100000 60 112 qsa90 qsb90 qsv90 qsc90 = true := by kernel_rfl
theorem qsr106 : memoRuns Tryz.prog qst106 100000 60 112 qsa106 qsb106 qsv106 qsc106 = true := by kernel_rfl
end Go.Proofs.YtbjhkhhbdlnfbaaGreatDoor
namespace Go.Proofs.YtbjhkhhbdlnfbaaGreatDoor
open Go.RowKit
theorem qsr89 : memoRuns Tryz.prog qst89 100000 60 83 qsa89 qsb89 qsv89 qsc89 = true := by kernel_rfl
theorem qsr233 : memoRuns Tryz.prog qst233 100000 60 112 qsa233 qsb233 qsv233 qsc233 = true := by kernel_rfl
end Go.Proofs.YtbjhkhhbdlnfbaaGreatDoor
namespace Go.Proofs.YtbjhkhhbdlnfbaaGreatDoor
open Go.RowKit
theorem qsr249 : memoRuns Tryz.prog qst249 100000 60 112 qsa249 qsb249 qsv249 qsc249 = true := by kernel_rfl
theorem qsr232 : memoRuns Tryz.prog qst232 100000 60 83 qsa232 qsb232 qsv232 qsc232 = true := by kernel_rfl
end Go.Proofs.YtbjhkhhbdlnfbaaGreatDoor
