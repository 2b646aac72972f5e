/-
  Closed facts of the row of ScriptLines, part 3 of 4. No condition.
  Closed facts of the row of ScriptLines, part 4 of 4. No condition.
-/
import Derived.WalkKit
import Derived.WalkSpells
import Derived.WalkLawsBesides
import Derived.Deep.Light
import Derived.Deep.RegionHeld3
import Derived.Deep.MidRow
import Derived.Lib.Hide
import Derived.Test.YtbjhkhhbdlnfbaaGreatDoorK6
import Derived.Test.YtbjhkhhbdlnfbaaGreatDoorRows
namespace Go.Proofs.YtbjhkhhbdlnfbaaGreatDoor
open Go.RowKit

theorem scriptLines_fact16 : (fun (P : Program) (f : FuncId) (fn : Func) (s : ChangeSpec) (c : OpenClaim) => ((c.loops == (fn.params.toList ++ s.plain.varTypes P).any (P.loopsFrom ·)))) Tryz.prog 3 Tryz.f3 Rows.scriptLinesSpec Rows.scriptLinesRow = true := by kernel_rfl
theorem scriptLines_fact17 : (fun (P : Program) (f : FuncId) (fn : Func) (s : ChangeSpec) (c : OpenClaim) => ((c.wideKeys == (fn.params.toList ++ s.plain.varTypes P ++ fn.resultTypes.toList).any (P.wideKeysFrom ·)))) Tryz.prog 3 Tryz.f3 Rows.scriptLinesSpec Rows.scriptLinesRow = true := by kernel_rfl
theorem scriptLines_fact18 : (fun (P : Program) (f : FuncId) (fn : Func) (s : ChangeSpec) (c : OpenClaim) => (s.vars.all (P.varReadable ·))) Tryz.prog 3 Tryz.f3 Rows.scriptLinesSpec Rows.scriptLinesRow = true := by kernel_rfl
theorem scriptLines_fact19 : (fun (P : Program) (f : FuncId) (fn : Func) (s : ChangeSpec) (c : OpenClaim) => (fn.resultTypes.all (fun t => P.readableRec t && decide (t < P.types.size)))) Tryz.prog 3 Tryz.f3 Rows.scriptLinesSpec Rows.scriptLinesRow = true := by kernel_rfl
theorem scriptLines_fact20 : (fun (P : Program) (f : FuncId) (fn : Func) (s : ChangeSpec) (c : OpenClaim) => ((c.ifacesOut == fn.resultTypes.toList.any (P.ifacesRec ·)))) Tryz.prog 3 Tryz.f3 Rows.scriptLinesSpec Rows.scriptLinesRow = true := by kernel_rfl
theorem scriptLines_fact21 : (fun (P : Program) (f : FuncId) (fn : Func) (s : ChangeSpec) (c : OpenClaim) => ((c.loopsOut == fn.resultTypes.toList.any (P.loopsFrom ·)))) Tryz.prog 3 Tryz.f3 Rows.scriptLinesSpec Rows.scriptLinesRow = true := by kernel_rfl
theorem scriptLines_fact22 : (fun (P : Program) (f : FuncId) (fn : Func) (s : ChangeSpec) (c : OpenClaim) => ((c.plainKeys == P.plainKeys))) Tryz.prog 3 Tryz.f3 Rows.scriptLinesSpec Rows.scriptLinesRow = true := by kernel_rfl
theorem scriptLines_fact23 : (fun (P : Program) (f : FuncId) (fn : Func) (s : ChangeSpec) (c : OpenClaim) => (c.shortTexts.isNone)) Tryz.prog 3 Tryz.f3 Rows.scriptLinesSpec Rows.scriptLinesRow = true := by kernel_rfl
end Go.Proofs.YtbjhkhhbdlnfbaaGreatDoor
namespace Go.Proofs.YtbjhkhhbdlnfbaaGreatDoor
open Go.RowKit

theorem scriptLines_fact24 : (fun (P : Program) (f : FuncId) (fn : Func) (s : ChangeSpec) (c : OpenClaim) => (P.stopsHeard)) Tryz.prog 3 Tryz.f3 Rows.scriptLinesSpec Rows.scriptLinesRow = true := by kernel_rfl
theorem scriptLines_fact25 : (fun (P : Program) (f : FuncId) (fn : Func) (s : ChangeSpec) (c : OpenClaim) => (P.mayEnter)) Tryz.prog 3 Tryz.f3 Rows.scriptLinesSpec Rows.scriptLinesRow = true := by kernel_rfl
theorem scriptLines_fact26 : (fun (P : Program) (f : FuncId) (fn : Func) (s : ChangeSpec) (c : OpenClaim) => ((c.lifted == P.liftsFinal))) Tryz.prog 3 Tryz.f3 Rows.scriptLinesSpec Rows.scriptLinesRow = true := by kernel_rfl
theorem scriptLines_fact27 : (fun (P : Program) (f : FuncId) (fn : Func) (s : ChangeSpec) (c : OpenClaim) => ((P.make == some c.make))) Tryz.prog 3 Tryz.f3 Rows.scriptLinesSpec Rows.scriptLinesRow = true := by kernel_rfl
theorem scriptLines_fact28 : (fun (P : Program) (f : FuncId) (fn : Func) (s : ChangeSpec) (c : OpenClaim) => ((c.kinds == (if c.domain.isEmpty then [] else fn.params.toList.map fun t => match P.underlying t with | some (.int k) => some k | _ => none)))) Tryz.prog 3 Tryz.f3 Rows.scriptLinesSpec Rows.scriptLinesRow = true := by kernel_rfl
theorem scriptLines_fact29 : (fun (P : Program) (f : FuncId) (fn : Func) (s : ChangeSpec) (c : OpenClaim) => ((c.pinned == c.pinnedBy))) Tryz.prog 3 Tryz.f3 Rows.scriptLinesSpec Rows.scriptLinesRow = true := by kernel_rfl
theorem scriptLines_fact30 : (fun (P : Program) (f : FuncId) (fn : Func) (s : ChangeSpec) (c : OpenClaim) => ((c.veiled == (fn.params.toList ++ s.plain.varTypes P ++ fn.resultTypes.toList).any (P.veiledRec ·)))) Tryz.prog 3 Tryz.f3 Rows.scriptLinesSpec Rows.scriptLinesRow = true := by kernel_rfl
theorem scriptLines_fact31 : (fun (P : Program) (f : FuncId) (fn : Func) (s : ChangeSpec) (c : OpenClaim) => (c.veiledFits P fn.params.toList (fn.params.toList ++ s.plain.varTypes P ++ fn.resultTypes.toList))) Tryz.prog 3 Tryz.f3 Rows.scriptLinesSpec Rows.scriptLinesRow = true := by kernel_rfl
end Go.Proofs.YtbjhkhhbdlnfbaaGreatDoor
