/-
  Closed facts of the row of HostNone, part 3 of 4. No condition.
-/
import Derived.Test.YtfdpaognkjebeaaGreatRow
import Derived.Test.YtfdpaognkjebeaaGreatFacts
import Derived.Test.YtfdpaognkjebeaaGreatRows
namespace Go.Proofs.YtfdpaognkjebeaaGreat
open Go.RowKit

theorem hostNone_fact16 : (fun (P : Program) (f : FuncId) (fn : Func) (s : ChangeSpec) (c : OpenClaim) => ((c.loops == (fn.params.toList ++ s.plain.varTypes P).any (P.loopsFrom ·)))) Tryz.prog 3 Tryz.f3 Rows.hostNoneSpec Rows.hostNoneRow = true := by kernel_rfl
theorem hostNone_fact17 : (fun (P : Program) (f : FuncId) (fn : Func) (s : ChangeSpec) (c : OpenClaim) => ((c.wideKeys == (fn.params.toList ++ s.plain.varTypes P ++ fn.resultTypes.toList).any (P.wideKeysFrom ·)))) Tryz.prog 3 Tryz.f3 Rows.hostNoneSpec Rows.hostNoneRow = true := by kernel_rfl
theorem hostNone_fact18 : (fun (P : Program) (f : FuncId) (fn : Func) (s : ChangeSpec) (c : OpenClaim) => (s.vars.all (P.varReadable ·))) Tryz.prog 3 Tryz.f3 Rows.hostNoneSpec Rows.hostNoneRow = true := by kernel_rfl
theorem hostNone_fact19 : (fun (P : Program) (f : FuncId) (fn : Func) (s : ChangeSpec) (c : OpenClaim) => (fn.resultTypes.all (fun t => P.readableRec t && decide (t < P.types.size)))) Tryz.prog 3 Tryz.f3 Rows.hostNoneSpec Rows.hostNoneRow = true := by kernel_rfl
theorem hostNone_fact20 : (fun (P : Program) (f : FuncId) (fn : Func) (s : ChangeSpec) (c : OpenClaim) => ((c.ifacesOut == fn.resultTypes.toList.any (P.ifacesRec ·)))) Tryz.prog 3 Tryz.f3 Rows.hostNoneSpec Rows.hostNoneRow = true := by kernel_rfl
theorem hostNone_fact21 : (fun (P : Program) (f : FuncId) (fn : Func) (s : ChangeSpec) (c : OpenClaim) => ((c.loopsOut == fn.resultTypes.toList.any (P.loopsFrom ·)))) Tryz.prog 3 Tryz.f3 Rows.hostNoneSpec Rows.hostNoneRow = true := by kernel_rfl
theorem hostNone_fact22 : (fun (P : Program) (f : FuncId) (fn : Func) (s : ChangeSpec) (c : OpenClaim) => ((c.plainKeys == P.plainKeys))) Tryz.prog 3 Tryz.f3 Rows.hostNoneSpec Rows.hostNoneRow = true := by kernel_rfl
theorem hostNone_fact23 : (fun (P : Program) (f : FuncId) (fn : Func) (s : ChangeSpec) (c : OpenClaim) => (c.shortTexts.isNone)) Tryz.prog 3 Tryz.f3 Rows.hostNoneSpec Rows.hostNoneRow = true := by kernel_rfl
end Go.Proofs.YtfdpaognkjebeaaGreat
