/-
  The plane's lives: some of its calls, run. Printed by a program (dev/chunk.sh). No condition.
-/
import Derived.Test.YtpbijafbfpjofaaGreatQpa
namespace Go.Proofs.YtpbijafbfpjofaaGreat
open Go.RowKit
/-- linkboy/track.Track.Get -/
theorem qr438 : memoRuns Tryz.prog qt438 100000 60 49 qa438 qb438 qv438 qc438 = true := by kernel_rfl
/-- linkboy/board.Board.Pick -/
theorem qr507 : memoRuns Tryz.prog qt507 100000 60 106 qa507 qb507 qv507 qc507 = true := by kernel_rfl
/-- linkboy/slots.Slots.Put -/
theorem qr681 : memoRuns Tryz.prog qt681 100000 60 159 qa681 qb681 qv681 qc681 = true := by kernel_rfl
end Go.Proofs.YtpbijafbfpjofaaGreat
