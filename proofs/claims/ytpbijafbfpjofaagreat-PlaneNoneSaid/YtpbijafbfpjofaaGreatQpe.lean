/-
  The plane's lives: some of its calls, run. Printed by a program (dev/chunk.sh). No condition.
-/
import Derived.Test.YtpbijafbfpjofaaGreatQpa
namespace Go.Proofs.YtpbijafbfpjofaaGreat
open Go.RowKit
/-- linkboy/track.Track.Add -/
theorem qr612 : memoRuns Tryz.prog qt612 100000 60 109 qa612 qb612 qv612 qc612 = true := by kernel_rfl
/-- linkboy/plane.Plane.byEntry -/
theorem qr437 : memoRuns Tryz.prog qt437 100000 60 23 qa437 qb437 qv437 qc437 = true := by kernel_rfl
/-- linkboy/plane.Plane.Forward -/
theorem qr375 : memoRuns Tryz.prog qt375 100000 60 6 qa375 qb375 qv375 qc375 = true := by kernel_rfl
end Go.Proofs.YtpbijafbfpjofaaGreat
