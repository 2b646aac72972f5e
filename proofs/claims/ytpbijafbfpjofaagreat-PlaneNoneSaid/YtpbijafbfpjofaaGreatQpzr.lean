/-
  The plane's lives: the rest, run. Printed by a program (dev/chunk.sh). No condition.
-/
import Derived.Test.YtpbijafbfpjofaaGreatQpa
namespace Go.Proofs.YtpbijafbfpjofaaGreat
open Go.RowKit
theorem qruns : memTrue Tryz.prog qtop 100000 60 13 #[] = true := by kernel_rfl
end Go.Proofs.YtpbijafbfpjofaaGreat
