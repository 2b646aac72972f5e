/-
  The closed facts of the row of HostNone. No condition.
-/
import Derived.Test.YtfdpaognkjebeaaGreatQhf1
import Derived.Test.YtfdpaognkjebeaaGreatQhf2
import Derived.Test.YtfdpaognkjebeaaGreatQhf3
import Derived.Test.YtfdpaognkjebeaaGreatQhf4
namespace Go.Proofs.YtfdpaognkjebeaaGreat
open Go.RowKit

set_option maxRecDepth 1000000 in
theorem hostNone_facts : joinedFacts Tryz.prog 3 Tryz.f3 Rows.hostNoneSpec Rows.hostNoneRow = true :=
  facts_of hostNone_fact0 hostNone_fact1 hostNone_fact2 hostNone_fact3 hostNone_fact4 hostNone_fact5 hostNone_fact6 hostNone_fact7 hostNone_fact8 hostNone_fact9 hostNone_fact10 hostNone_fact11 hostNone_fact12 hostNone_fact13 hostNone_fact14 hostNone_fact15 hostNone_fact16 hostNone_fact17 hostNone_fact18 hostNone_fact19 hostNone_fact20 hostNone_fact21 hostNone_fact22 hostNone_fact23 hostNone_fact24 hostNone_fact25 hostNone_fact26 hostNone_fact27 hostNone_fact28 hostNone_fact29 hostNone_fact30 hostNone_fact31
theorem hostNone_wrap : Tryz.f3.isWrapper Tryz.prog Rows.hostNoneRow.wrapper Rows.hostNoneRow.mainSum := by
  unfold Func.isWrapper; first | (rw [if_pos (by decide +kernel)]; kernel_rfl) | (rw [if_neg (by decide +kernel)]; exact ⟨rfl, rfl⟩)
end Go.Proofs.YtfdpaognkjebeaaGreat
