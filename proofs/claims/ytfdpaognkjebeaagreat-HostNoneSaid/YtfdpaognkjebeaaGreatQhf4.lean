/-
  Closed facts of the row of HostNone, part 4 of 4. No condition.
-/
import Derived.Test.YtfdpaognkjebeaaGreatRow
import Derived.Test.YtfdpaognkjebeaaGreatFacts
import Derived.Test.YtfdpaognkjebeaaGreatRows
namespace Go.Proofs.YtfdpaognkjebeaaGreat
open Go.RowKit

theorem hostNone_fact24 : (fun (P : Program) (f : FuncId) (fn : Func) (s : ChangeSpec) (c : OpenClaim) => (P.stopsHeard)) Tryz.prog 3 Tryz.f3 Rows.hostNoneSpec Rows.hostNoneRow = true := by kernel_rfl
theorem hostNone_fact25 : (fun (P : Program) (f : FuncId) (fn : Func) (s : ChangeSpec) (c : OpenClaim) => (P.mayEnter)) Tryz.prog 3 Tryz.f3 Rows.hostNoneSpec Rows.hostNoneRow = true := by kernel_rfl
theorem hostNone_fact26 : (fun (P : Program) (f : FuncId) (fn : Func) (s : ChangeSpec) (c : OpenClaim) => ((c.lifted == P.liftsFinal))) Tryz.prog 3 Tryz.f3 Rows.hostNoneSpec Rows.hostNoneRow = true := by kernel_rfl
theorem hostNone_fact27 : (fun (P : Program) (f : FuncId) (fn : Func) (s : ChangeSpec) (c : OpenClaim) => ((P.make == some c.make))) Tryz.prog 3 Tryz.f3 Rows.hostNoneSpec Rows.hostNoneRow = true := by kernel_rfl
theorem hostNone_fact28 : (fun (P : Program) (f : FuncId) (fn : Func) (s : ChangeSpec) (c : OpenClaim) => ((c.kinds == (if c.domain.isEmpty then [] else fn.params.toList.map fun t => match P.underlying t with | some (.int k) => some k | _ => none)))) Tryz.prog 3 Tryz.f3 Rows.hostNoneSpec Rows.hostNoneRow = true := by kernel_rfl
theorem hostNone_fact29 : (fun (P : Program) (f : FuncId) (fn : Func) (s : ChangeSpec) (c : OpenClaim) => ((c.pinned == c.pinnedBy))) Tryz.prog 3 Tryz.f3 Rows.hostNoneSpec Rows.hostNoneRow = true := by kernel_rfl
theorem hostNone_fact30 : (fun (P : Program) (f : FuncId) (fn : Func) (s : ChangeSpec) (c : OpenClaim) => ((c.veiled == (fn.params.toList ++ s.plain.varTypes P ++ fn.resultTypes.toList).any (P.veiledRec ·)))) Tryz.prog 3 Tryz.f3 Rows.hostNoneSpec Rows.hostNoneRow = true := by kernel_rfl
theorem hostNone_fact31 : (fun (P : Program) (f : FuncId) (fn : Func) (s : ChangeSpec) (c : OpenClaim) => (c.veiledFits P fn.params.toList (fn.params.toList ++ s.plain.varTypes P ++ fn.resultTypes.toList))) Tryz.prog 3 Tryz.f3 Rows.hostNoneSpec Rows.hostNoneRow = true := by kernel_rfl
end Go.Proofs.YtfdpaognkjebeaaGreat
