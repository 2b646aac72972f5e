/-
  The closed facts of the row of AuditSums. No condition.
-/
import Derived.Test.YtfdpaognkjebeaaGreatQaf1
import Derived.Test.YtfdpaognkjebeaaGreatQaf2
import Derived.Test.YtfdpaognkjebeaaGreatQaf3
import Derived.Test.YtfdpaognkjebeaaGreatQaf4
namespace Go.Proofs.YtfdpaognkjebeaaGreat
open Go.RowKit

set_option maxRecDepth 1000000 in
theorem auditSums_facts : joinedFacts Tryz.prog 4 Tryz.f4 Rows.auditSumsSpec Rows.auditSumsRow = true :=
  facts_of auditSums_fact0 auditSums_fact1 auditSums_fact2 auditSums_fact3 auditSums_fact4 auditSums_fact5 auditSums_fact6 auditSums_fact7 auditSums_fact8 auditSums_fact9 auditSums_fact10 auditSums_fact11 auditSums_fact12 auditSums_fact13 auditSums_fact14 auditSums_fact15 auditSums_fact16 auditSums_fact17 auditSums_fact18 auditSums_fact19 auditSums_fact20 auditSums_fact21 auditSums_fact22 auditSums_fact23 auditSums_fact24 auditSums_fact25 auditSums_fact26 auditSums_fact27 auditSums_fact28 auditSums_fact29 auditSums_fact30 auditSums_fact31
theorem auditSums_wrap : Tryz.f4.isWrapper Tryz.prog Rows.auditSumsRow.wrapper Rows.auditSumsRow.mainSum := by
  unfold Func.isWrapper; first | (rw [if_pos (by decide +kernel)]; kernel_rfl) | (rw [if_neg (by decide +kernel)]; exact ⟨rfl, rfl⟩)
end Go.Proofs.YtfdpaognkjebeaaGreat
