/-
  The plane's lives: some of its calls, run. Printed by a program (dev/chunk.sh). No condition.
-/
import Derived.Test.YtpbijafbfpjofaaGreatQpa
namespace Go.Proofs.YtpbijafbfpjofaaGreat
open Go.RowKit
/-- linkboy/track.Track.Get -/
theorem qr95 : memoRuns Tryz.prog qt95 100000 60 49 qa95 qb95 qv95 qc95 = true := by kernel_rfl
/-- linkboy/plane.Plane.byEntry -/
theorem qr94 : memoRuns Tryz.prog qt94 100000 60 23 qa94 qb94 qv94 qc94 = true := by kernel_rfl
/-- linkboy/plane.Plane.Forward -/
theorem qr32 : memoRuns Tryz.prog qt32 100000 60 6 qa32 qb32 qv32 qc32 = true := by kernel_rfl
end Go.Proofs.YtpbijafbfpjofaaGreat
