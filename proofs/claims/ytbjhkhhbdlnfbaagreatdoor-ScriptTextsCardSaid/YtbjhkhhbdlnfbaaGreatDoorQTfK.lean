/-
  The closed facts of the row of ScriptTexts. No condition.
-/
import Derived.Test.YtbjhkhhbdlnfbaaGreatDoorK11
import Derived.Test.YtbjhkhhbdlnfbaaGreatDoorQTf2K
namespace Go.Proofs.YtbjhkhhbdlnfbaaGreatDoor
open Go.RowKit

set_option maxRecDepth 1000000 in
theorem scriptTexts_facts : joinedFacts Tryz.prog 4 Tryz.f4 Rows.scriptTextsSpec Rows.scriptTextsRow = true :=
  facts_of scriptTexts_fact0 scriptTexts_fact1 scriptTexts_fact2 scriptTexts_fact3 scriptTexts_fact4 scriptTexts_fact5 scriptTexts_fact6 scriptTexts_fact7 scriptTexts_fact8 scriptTexts_fact9 scriptTexts_fact10 scriptTexts_fact11 scriptTexts_fact12 scriptTexts_fact13 scriptTexts_fact14 scriptTexts_fact15 scriptTexts_fact16 scriptTexts_fact17 scriptTexts_fact18 scriptTexts_fact19 scriptTexts_fact20 scriptTexts_fact21 scriptTexts_fact22 scriptTexts_fact23 scriptTexts_fact24 scriptTexts_fact25 scriptTexts_fact26 scriptTexts_fact27 scriptTexts_fact28 scriptTexts_fact29 scriptTexts_fact30 scriptTexts_fact31
theorem scriptTexts_wrap : Tryz.f4.isWrapper Tryz.prog Rows.scriptTextsRow.wrapper Rows.scriptTextsRow.mainSum := by
  unfold Func.isWrapper; first | (rw [if_pos (by decide +kernel)]; kernel_rfl) | (rw [if_neg (by decide +kernel)]; exact ⟨rfl, rfl⟩)
end Go.Proofs.YtbjhkhhbdlnfbaaGreatDoor
