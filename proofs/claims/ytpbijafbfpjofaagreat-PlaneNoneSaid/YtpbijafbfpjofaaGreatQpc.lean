/-
  The plane's lives: some of its calls, run. Printed by a program (dev/chunk.sh). No condition.
-/
import Derived.Test.YtpbijafbfpjofaaGreatQpa
namespace Go.Proofs.YtpbijafbfpjofaaGreat
open Go.RowKit
/-- linkboy/sip.Under -/
theorem qr246 : memoRuns Tryz.prog qt246 100000 60 204 qa246 qb246 qv246 qc246 = true := by kernel_rfl
/-- linkboy/maglev.players -/
theorem qr238 : memoRuns Tryz.prog qt238 100000 60 90 qa238 qb238 qv238 qc238 = true := by kernel_rfl
/-- linkboy/plane.Plane.Farm -/
theorem qr228 : memoRuns Tryz.prog qt228 100000 60 4 qa228 qb228 qv228 qc228 = true := by kernel_rfl
end Go.Proofs.YtpbijafbfpjofaaGreat
