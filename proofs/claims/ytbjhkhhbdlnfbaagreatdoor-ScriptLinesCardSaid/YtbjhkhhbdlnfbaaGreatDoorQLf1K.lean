/-
  Closed facts of the row of ScriptLines, part 1 of 4. No condition.
-/
import Derived.WalkKit
import Derived.WalkSpells
import Derived.WalkLawsBesides
import Derived.Deep.Light
import Derived.Deep.RegionHeld3
import Derived.Deep.MidRow
import Derived.Lib.Hide
import Derived.Test.YtbjhkhhbdlnfbaaGreatDoorK6
import Derived.Test.YtbjhkhhbdlnfbaaGreatDoorRows
namespace Go.Proofs.YtbjhkhhbdlnfbaaGreatDoor
open Go.RowKit

theorem scriptLines_fact0 : (fun (P : Program) (f : FuncId) (fn : Func) (s : ChangeSpec) (c : OpenClaim) => (c.wf (OpenSpec.ofChange s))) Tryz.prog 3 Tryz.f3 Rows.scriptLinesSpec Rows.scriptLinesRow = true := by kernel_rfl
theorem scriptLines_fact1 : (fun (P : Program) (f : FuncId) (fn : Func) (s : ChangeSpec) (c : OpenClaim) => (laidOutB P)) Tryz.prog 3 Tryz.f3 Rows.scriptLinesSpec Rows.scriptLinesRow = true := by kernel_rfl
theorem scriptLines_fact2 : (fun (P : Program) (f : FuncId) (fn : Func) (s : ChangeSpec) (c : OpenClaim) => (mapsRowed P)) Tryz.prog 3 Tryz.f3 Rows.scriptLinesSpec Rows.scriptLinesRow = true := by kernel_rfl
theorem scriptLines_fact3 : (fun (P : Program) (f : FuncId) (fn : Func) (s : ChangeSpec) (c : OpenClaim) => (fn.params.all (P.readableRec ·))) Tryz.prog 3 Tryz.f3 Rows.scriptLinesSpec Rows.scriptLinesRow = true := by kernel_rfl
theorem scriptLines_fact4 : (fun (P : Program) (f : FuncId) (fn : Func) (s : ChangeSpec) (c : OpenClaim) => (namedTie P c.named s.vars)) Tryz.prog 3 Tryz.f3 Rows.scriptLinesSpec Rows.scriptLinesRow = true := by kernel_rfl
theorem scriptLines_fact5 : (fun (P : Program) (f : FuncId) (fn : Func) (s : ChangeSpec) (c : OpenClaim) => ((c.stops == []))) Tryz.prog 3 Tryz.f3 Rows.scriptLinesSpec Rows.scriptLinesRow = true := by kernel_rfl
theorem scriptLines_fact6 : (fun (P : Program) (f : FuncId) (fn : Func) (s : ChangeSpec) (c : OpenClaim) => ((P.stops == []))) Tryz.prog 3 Tryz.f3 Rows.scriptLinesSpec Rows.scriptLinesRow = true := by kernel_rfl
theorem scriptLines_fact7 : (fun (P : Program) (f : FuncId) (fn : Func) (s : ChangeSpec) (c : OpenClaim) => ((c.knobs == []))) Tryz.prog 3 Tryz.f3 Rows.scriptLinesSpec Rows.scriptLinesRow = true := by kernel_rfl
end Go.Proofs.YtbjhkhhbdlnfbaaGreatDoor
