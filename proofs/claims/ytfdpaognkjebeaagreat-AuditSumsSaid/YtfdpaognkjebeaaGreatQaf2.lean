/-
  Closed facts of the row of AuditSums, part 2 of 4. No condition.
-/
import Derived.Test.YtfdpaognkjebeaaGreatRow
import Derived.Test.YtfdpaognkjebeaaGreatFacts
import Derived.Test.YtfdpaognkjebeaaGreatRows
namespace Go.Proofs.YtfdpaognkjebeaaGreat
open Go.RowKit

theorem auditSums_fact8 : (fun (P : Program) (f : FuncId) (fn : Func) (s : ChangeSpec) (c : OpenClaim) => ((P.stopKnobs == []))) Tryz.prog 4 Tryz.f4 Rows.auditSumsSpec Rows.auditSumsRow = true := by kernel_rfl
theorem auditSums_fact9 : (fun (P : Program) (f : FuncId) (fn : Func) (s : ChangeSpec) (c : OpenClaim) => ((c.inPlace == P.inPlace f))) Tryz.prog 4 Tryz.f4 Rows.auditSumsSpec Rows.auditSumsRow = true := by kernel_rfl
theorem auditSums_fact10 : (fun (P : Program) (f : FuncId) (fn : Func) (s : ChangeSpec) (c : OpenClaim) => ((c.unfollowed == P.unfollowed f))) Tryz.prog 4 Tryz.f4 Rows.auditSumsSpec Rows.auditSumsRow = true := by kernel_rfl
theorem auditSums_fact11 : (fun (P : Program) (f : FuncId) (fn : Func) (s : ChangeSpec) (c : OpenClaim) => ((c.recurses == P.recurses f))) Tryz.prog 4 Tryz.f4 Rows.auditSumsSpec Rows.auditSumsRow = true := by kernel_rfl
theorem auditSums_fact12 : (fun (P : Program) (f : FuncId) (fn : Func) (s : ChangeSpec) (c : OpenClaim) => ((c.named == P.varsNamed f))) Tryz.prog 4 Tryz.f4 Rows.auditSumsSpec Rows.auditSumsRow = true := by kernel_rfl
theorem auditSums_fact13 : (fun (P : Program) (f : FuncId) (fn : Func) (s : ChangeSpec) (c : OpenClaim) => ((c.maps == (fn.params.toList ++ s.plain.varTypes P).any (P.mapsRec ·)))) Tryz.prog 4 Tryz.f4 Rows.auditSumsSpec Rows.auditSumsRow = true := by kernel_rfl
theorem auditSums_fact14 : (fun (P : Program) (f : FuncId) (fn : Func) (s : ChangeSpec) (c : OpenClaim) => ((c.ifaces == (fn.params.toList ++ s.plain.varTypes P).any (P.ifacesRec ·)))) Tryz.prog 4 Tryz.f4 Rows.auditSumsSpec Rows.auditSumsRow = true := by kernel_rfl
theorem auditSums_fact15 : (fun (P : Program) (f : FuncId) (fn : Func) (s : ChangeSpec) (c : OpenClaim) => ((c.mapsOut == P.mapsAmong fn.resultTypes.toList))) Tryz.prog 4 Tryz.f4 Rows.auditSumsSpec Rows.auditSumsRow = true := by kernel_rfl
end Go.Proofs.YtfdpaognkjebeaaGreat
