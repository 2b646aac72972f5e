/-
  Closed facts of the row of AuditSums, part 1 of 4. No condition.
-/
import Derived.Test.YtfdpaognkjebeaaGreatRow
import Derived.Test.YtfdpaognkjebeaaGreatFacts
import Derived.Test.YtfdpaognkjebeaaGreatRows
namespace Go.Proofs.YtfdpaognkjebeaaGreat
open Go.RowKit

theorem auditSums_fact0 : (fun (P : Program) (f : FuncId) (fn : Func) (s : ChangeSpec) (c : OpenClaim) => (c.wf (OpenSpec.ofChange s))) Tryz.prog 4 Tryz.f4 Rows.auditSumsSpec Rows.auditSumsRow = true := by kernel_rfl
theorem auditSums_fact1 : (fun (P : Program) (f : FuncId) (fn : Func) (s : ChangeSpec) (c : OpenClaim) => (laidOutB P)) Tryz.prog 4 Tryz.f4 Rows.auditSumsSpec Rows.auditSumsRow = true := by kernel_rfl
theorem auditSums_fact2 : (fun (P : Program) (f : FuncId) (fn : Func) (s : ChangeSpec) (c : OpenClaim) => (mapsRowed P)) Tryz.prog 4 Tryz.f4 Rows.auditSumsSpec Rows.auditSumsRow = true := by kernel_rfl
theorem auditSums_fact3 : (fun (P : Program) (f : FuncId) (fn : Func) (s : ChangeSpec) (c : OpenClaim) => (fn.params.all (P.readableRec ·))) Tryz.prog 4 Tryz.f4 Rows.auditSumsSpec Rows.auditSumsRow = true := by kernel_rfl
theorem auditSums_fact4 : (fun (P : Program) (f : FuncId) (fn : Func) (s : ChangeSpec) (c : OpenClaim) => (namedTie P c.named s.vars)) Tryz.prog 4 Tryz.f4 Rows.auditSumsSpec Rows.auditSumsRow = true := by kernel_rfl
theorem auditSums_fact5 : (fun (P : Program) (f : FuncId) (fn : Func) (s : ChangeSpec) (c : OpenClaim) => ((c.stops == []))) Tryz.prog 4 Tryz.f4 Rows.auditSumsSpec Rows.auditSumsRow = true := by kernel_rfl
theorem auditSums_fact6 : (fun (P : Program) (f : FuncId) (fn : Func) (s : ChangeSpec) (c : OpenClaim) => ((P.stops == []))) Tryz.prog 4 Tryz.f4 Rows.auditSumsSpec Rows.auditSumsRow = true := by kernel_rfl
theorem auditSums_fact7 : (fun (P : Program) (f : FuncId) (fn : Func) (s : ChangeSpec) (c : OpenClaim) => ((c.knobs == []))) Tryz.prog 4 Tryz.f4 Rows.auditSumsSpec Rows.auditSumsRow = true := by kernel_rfl
end Go.Proofs.YtfdpaognkjebeaaGreat
