/-
  Closed facts of the row of AuditSums, part 4 of 4. No condition.
-/
import Derived.Test.YtfdpaognkjebeaaGreatRow
import Derived.Test.YtfdpaognkjebeaaGreatFacts
import Derived.Test.YtfdpaognkjebeaaGreatRows
namespace Go.Proofs.YtfdpaognkjebeaaGreat
open Go.RowKit

theorem auditSums_fact24 : (fun (P : Program) (f : FuncId) (fn : Func) (s : ChangeSpec) (c : OpenClaim) => (P.stopsHeard)) Tryz.prog 4 Tryz.f4 Rows.auditSumsSpec Rows.auditSumsRow = true := by kernel_rfl
theorem auditSums_fact25 : (fun (P : Program) (f : FuncId) (fn : Func) (s : ChangeSpec) (c : OpenClaim) => (P.mayEnter)) Tryz.prog 4 Tryz.f4 Rows.auditSumsSpec Rows.auditSumsRow = true := by kernel_rfl
theorem auditSums_fact26 : (fun (P : Program) (f : FuncId) (fn : Func) (s : ChangeSpec) (c : OpenClaim) => ((c.lifted == P.liftsFinal))) Tryz.prog 4 Tryz.f4 Rows.auditSumsSpec Rows.auditSumsRow = true := by kernel_rfl
theorem auditSums_fact27 : (fun (P : Program) (f : FuncId) (fn : Func) (s : ChangeSpec) (c : OpenClaim) => ((P.make == some c.make))) Tryz.prog 4 Tryz.f4 Rows.auditSumsSpec Rows.auditSumsRow = true := by kernel_rfl
theorem auditSums_fact28 : (fun (P : Program) (f : FuncId) (fn : Func) (s : ChangeSpec) (c : OpenClaim) => ((c.kinds == (if c.domain.isEmpty then [] else fn.params.toList.map fun t => match P.underlying t with | some (.int k) => some k | _ => none)))) Tryz.prog 4 Tryz.f4 Rows.auditSumsSpec Rows.auditSumsRow = true := by kernel_rfl
theorem auditSums_fact29 : (fun (P : Program) (f : FuncId) (fn : Func) (s : ChangeSpec) (c : OpenClaim) => ((c.pinned == c.pinnedBy))) Tryz.prog 4 Tryz.f4 Rows.auditSumsSpec Rows.auditSumsRow = true := by kernel_rfl
theorem auditSums_fact30 : (fun (P : Program) (f : FuncId) (fn : Func) (s : ChangeSpec) (c : OpenClaim) => ((c.veiled == (fn.params.toList ++ s.plain.varTypes P ++ fn.resultTypes.toList).any (P.veiledRec ·)))) Tryz.prog 4 Tryz.f4 Rows.auditSumsSpec Rows.auditSumsRow = true := by kernel_rfl
theorem auditSums_fact31 : (fun (P : Program) (f : FuncId) (fn : Func) (s : ChangeSpec) (c : OpenClaim) => (c.veiledFits P fn.params.toList (fn.params.toList ++ s.plain.varTypes P ++ fn.resultTypes.toList))) Tryz.prog 4 Tryz.f4 Rows.auditSumsSpec Rows.auditSumsRow = true := by kernel_rfl
end Go.Proofs.YtfdpaognkjebeaaGreat
