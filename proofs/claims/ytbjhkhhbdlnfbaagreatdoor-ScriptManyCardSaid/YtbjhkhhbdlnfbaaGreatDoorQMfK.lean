/-
  The closed facts of the row of ScriptMany. No condition.
-/
import Derived.Test.YtbjhkhhbdlnfbaaGreatDoorK12
import Derived.Test.YtbjhkhhbdlnfbaaGreatDoorQMf2K
namespace Go.Proofs.YtbjhkhhbdlnfbaaGreatDoor
open Go.RowKit

set_option maxRecDepth 1000000 in
theorem scriptMany_facts : joinedFacts Tryz.prog 5 Tryz.f5 Rows.scriptManySpec Rows.scriptManyRow = true :=
  facts_of scriptMany_fact0 scriptMany_fact1 scriptMany_fact2 scriptMany_fact3 scriptMany_fact4 scriptMany_fact5 scriptMany_fact6 scriptMany_fact7 scriptMany_fact8 scriptMany_fact9 scriptMany_fact10 scriptMany_fact11 scriptMany_fact12 scriptMany_fact13 scriptMany_fact14 scriptMany_fact15 scriptMany_fact16 scriptMany_fact17 scriptMany_fact18 scriptMany_fact19 scriptMany_fact20 scriptMany_fact21 scriptMany_fact22 scriptMany_fact23 scriptMany_fact24 scriptMany_fact25 scriptMany_fact26 scriptMany_fact27 scriptMany_fact28 scriptMany_fact29 scriptMany_fact30 scriptMany_fact31
theorem scriptMany_wrap : Tryz.f5.isWrapper Tryz.prog Rows.scriptManyRow.wrapper Rows.scriptManyRow.mainSum := by
  unfold Func.isWrapper; first | (rw [if_pos (by decide +kernel)]; kernel_rfl) | (rw [if_neg (by decide +kernel)]; exact ⟨rfl, rfl⟩)
end Go.Proofs.YtbjhkhhbdlnfbaaGreatDoor
