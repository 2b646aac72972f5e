/-
  Closed facts of the row of AuditSums, part 3 of 4. No condition.
-/
import Derived.Test.YtfdpaognkjebeaaGreatRow
import Derived.Test.YtfdpaognkjebeaaGreatFacts
import Derived.Test.YtfdpaognkjebeaaGreatRows
namespace Go.Proofs.YtfdpaognkjebeaaGreat
open Go.RowKit

theorem auditSums_fact16 : (fun (P : Program) (f : FuncId) (fn : Func) (s : ChangeSpec) (c : OpenClaim) => ((c.loops == (fn.params.toList ++ s.plain.varTypes P).any (P.loopsFrom ·)))) Tryz.prog 4 Tryz.f4 Rows.auditSumsSpec Rows.auditSumsRow = true := by kernel_rfl
theorem auditSums_fact17 : (fun (P : Program) (f : FuncId) (fn : Func) (s : ChangeSpec) (c : OpenClaim) => ((c.wideKeys == (fn.params.toList ++ s.plain.varTypes P ++ fn.resultTypes.toList).any (P.wideKeysFrom ·)))) Tryz.prog 4 Tryz.f4 Rows.auditSumsSpec Rows.auditSumsRow = true := by kernel_rfl
theorem auditSums_fact18 : (fun (P : Program) (f : FuncId) (fn : Func) (s : ChangeSpec) (c : OpenClaim) => (s.vars.all (P.varReadable ·))) Tryz.prog 4 Tryz.f4 Rows.auditSumsSpec Rows.auditSumsRow = true := by kernel_rfl
theorem auditSums_fact19 : (fun (P : Program) (f : FuncId) (fn : Func) (s : ChangeSpec) (c : OpenClaim) => (fn.resultTypes.all (fun t => P.readableRec t && decide (t < P.types.size)))) Tryz.prog 4 Tryz.f4 Rows.auditSumsSpec Rows.auditSumsRow = true := by kernel_rfl
theorem auditSums_fact20 : (fun (P : Program) (f : FuncId) (fn : Func) (s : ChangeSpec) (c : OpenClaim) => ((c.ifacesOut == fn.resultTypes.toList.any (P.ifacesRec ·)))) Tryz.prog 4 Tryz.f4 Rows.auditSumsSpec Rows.auditSumsRow = true := by kernel_rfl
theorem auditSums_fact21 : (fun (P : Program) (f : FuncId) (fn : Func) (s : ChangeSpec) (c : OpenClaim) => ((c.loopsOut == fn.resultTypes.toList.any (P.loopsFrom ·)))) Tryz.prog 4 Tryz.f4 Rows.auditSumsSpec Rows.auditSumsRow = true := by kernel_rfl
theorem auditSums_fact22 : (fun (P : Program) (f : FuncId) (fn : Func) (s : ChangeSpec) (c : OpenClaim) => ((c.plainKeys == P.plainKeys))) Tryz.prog 4 Tryz.f4 Rows.auditSumsSpec Rows.auditSumsRow = true := by kernel_rfl
theorem auditSums_fact23 : (fun (P : Program) (f : FuncId) (fn : Func) (s : ChangeSpec) (c : OpenClaim) => (c.shortTexts.isNone)) Tryz.prog 4 Tryz.f4 Rows.auditSumsSpec Rows.auditSumsRow = true := by kernel_rfl
end Go.Proofs.YtfdpaognkjebeaaGreat
