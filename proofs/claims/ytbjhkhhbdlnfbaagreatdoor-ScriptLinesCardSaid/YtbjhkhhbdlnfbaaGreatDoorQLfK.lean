/-
  The closed facts of the row of ScriptLines. No condition.
-/
import Derived.Test.YtbjhkhhbdlnfbaaGreatDoorQLf1K
import Derived.Test.YtbjhkhhbdlnfbaaGreatDoorQLf2K
import Derived.Test.YtbjhkhhbdlnfbaaGreatDoorK11
namespace Go.Proofs.YtbjhkhhbdlnfbaaGreatDoor
open Go.RowKit

set_option maxRecDepth 1000000 in
theorem scriptLines_facts : joinedFacts Tryz.prog 3 Tryz.f3 Rows.scriptLinesSpec Rows.scriptLinesRow = true :=
  facts_of scriptLines_fact0 scriptLines_fact1 scriptLines_fact2 scriptLines_fact3 scriptLines_fact4 scriptLines_fact5 scriptLines_fact6 scriptLines_fact7 scriptLines_fact8 scriptLines_fact9 scriptLines_fact10 scriptLines_fact11 scriptLines_fact12 scriptLines_fact13 scriptLines_fact14 scriptLines_fact15 scriptLines_fact16 scriptLines_fact17 scriptLines_fact18 scriptLines_fact19 scriptLines_fact20 scriptLines_fact21 scriptLines_fact22 scriptLines_fact23 scriptLines_fact24 scriptLines_fact25 scriptLines_fact26 scriptLines_fact27 scriptLines_fact28 scriptLines_fact29 scriptLines_fact30 scriptLines_fact31
theorem scriptLines_wrap : Tryz.f3.isWrapper Tryz.prog Rows.scriptLinesRow.wrapper Rows.scriptLinesRow.mainSum := by
  unfold Func.isWrapper; first | (rw [if_pos (by decide +kernel)]; kernel_rfl) | (rw [if_neg (by decide +kernel)]; exact ⟨rfl, rfl⟩)
end Go.Proofs.YtbjhkhhbdlnfbaaGreatDoor
