/-
  What lives of layer 17 comes to: the rest, run. Printed by a program (dev/chunk.sh). No condition.
-/
import Derived.Test.YtcbpdjikdohegaaQwa2
namespace Go.Proofs.Ytcbpdjikdohegaa
open Go.RowKit
theorem qwruns : memTrue Try.prog qwtop 100000 60 25 #[] = true := by kernel_rfl
end Go.Proofs.Ytcbpdjikdohegaa
