/-
  Closed facts of the row of ScriptMany, part 1 of 4. No condition.
  Closed facts of the row of ScriptMany, part 3 of 4. No condition.
  Closed facts of the row of ScriptMany, part 4 of 4. No condition.
-/
import Derived.WalkKit
import Derived.WalkSpells
import Derived.WalkLawsBesides
import Derived.Deep.Light
import Derived.Deep.RegionHeld3
import Derived.Deep.MidRow
import Derived.Lib.Hide
import Derived.Test.YtbjhkhhbdlnfbaaGreatDoorK7
import Derived.Test.YtbjhkhhbdlnfbaaGreatDoorRows
namespace Go.Proofs.YtbjhkhhbdlnfbaaGreatDoor
open Go.RowKit

theorem scriptMany_fact0 : (fun (_ : Program) (f : FuncId) (_ : Func) (s : ChangeSpec) (c : OpenClaim) => (c.wf (OpenSpec.ofChange s))) Tryz.prog 5 Tryz.f5 Rows.scriptManySpec Rows.scriptManyRow = true := by kernel_rfl
theorem scriptMany_fact1 : (fun (P : Program) (f : FuncId) (_ : Func) (_ : ChangeSpec) (_ : OpenClaim) => (laidOutB P)) Tryz.prog 5 Tryz.f5 Rows.scriptManySpec Rows.scriptManyRow = true := by kernel_rfl
theorem scriptMany_fact2 : (fun (P : Program) (f : FuncId) (_ : Func) (_ : ChangeSpec) (_ : OpenClaim) => (mapsRowed P)) Tryz.prog 5 Tryz.f5 Rows.scriptManySpec Rows.scriptManyRow = true := by kernel_rfl
theorem scriptMany_fact3 : (fun (P : Program) (f : FuncId) (fn : Func) (_ : ChangeSpec) (_ : OpenClaim) => (fn.params.all (P.readableRec ·))) Tryz.prog 5 Tryz.f5 Rows.scriptManySpec Rows.scriptManyRow = true := by kernel_rfl
theorem scriptMany_fact4 : (fun (P : Program) (f : FuncId) (_ : Func) (s : ChangeSpec) (c : OpenClaim) => (namedTie P c.named s.vars)) Tryz.prog 5 Tryz.f5 Rows.scriptManySpec Rows.scriptManyRow = true := by kernel_rfl
theorem scriptMany_fact5 : (fun (_ : Program) (f : FuncId) (_ : Func) (_ : ChangeSpec) (c : OpenClaim) => ((c.stops == []))) Tryz.prog 5 Tryz.f5 Rows.scriptManySpec Rows.scriptManyRow = true := by kernel_rfl
theorem scriptMany_fact6 : (fun (P : Program) (f : FuncId) (_ : Func) (_ : ChangeSpec) (_ : OpenClaim) => ((P.stops == []))) Tryz.prog 5 Tryz.f5 Rows.scriptManySpec Rows.scriptManyRow = true := by kernel_rfl
theorem scriptMany_fact7 : (fun (_ : Program) (f : FuncId) (_ : Func) (_ : ChangeSpec) (c : OpenClaim) => ((c.knobs == []))) Tryz.prog 5 Tryz.f5 Rows.scriptManySpec Rows.scriptManyRow = true := by kernel_rfl
end Go.Proofs.YtbjhkhhbdlnfbaaGreatDoor
namespace Go.Proofs.YtbjhkhhbdlnfbaaGreatDoor
open Go.RowKit

theorem scriptMany_fact16 : (fun (P : Program) (f : FuncId) (fn : Func) (s : ChangeSpec) (c : OpenClaim) => ((c.loops == (fn.params.toList ++ s.plain.varTypes P).any (P.loopsFrom ·)))) Tryz.prog 5 Tryz.f5 Rows.scriptManySpec Rows.scriptManyRow = true := by kernel_rfl
theorem scriptMany_fact17 : (fun (P : Program) (f : FuncId) (fn : Func) (s : ChangeSpec) (c : OpenClaim) => ((c.wideKeys == (fn.params.toList ++ s.plain.varTypes P ++ fn.resultTypes.toList).any (P.wideKeysFrom ·)))) Tryz.prog 5 Tryz.f5 Rows.scriptManySpec Rows.scriptManyRow = true := by kernel_rfl
theorem scriptMany_fact18 : (fun (P : Program) (f : FuncId) (_ : Func) (s : ChangeSpec) (_ : OpenClaim) => (s.vars.all (P.varReadable ·))) Tryz.prog 5 Tryz.f5 Rows.scriptManySpec Rows.scriptManyRow = true := by kernel_rfl
theorem scriptMany_fact19 : (fun (P : Program) (f : FuncId) (fn : Func) (_ : ChangeSpec) (_ : OpenClaim) => (fn.resultTypes.all (fun t => P.readableRec t && decide (t < P.types.size)))) Tryz.prog 5 Tryz.f5 Rows.scriptManySpec Rows.scriptManyRow = true := by kernel_rfl
theorem scriptMany_fact20 : (fun (P : Program) (f : FuncId) (fn : Func) (_ : ChangeSpec) (c : OpenClaim) => ((c.ifacesOut == fn.resultTypes.toList.any (P.ifacesRec ·)))) Tryz.prog 5 Tryz.f5 Rows.scriptManySpec Rows.scriptManyRow = true := by kernel_rfl
theorem scriptMany_fact21 : (fun (P : Program) (f : FuncId) (fn : Func) (_ : ChangeSpec) (c : OpenClaim) => ((c.loopsOut == fn.resultTypes.toList.any (P.loopsFrom ·)))) Tryz.prog 5 Tryz.f5 Rows.scriptManySpec Rows.scriptManyRow = true := by kernel_rfl
theorem scriptMany_fact22 : (fun (P : Program) (f : FuncId) (_ : Func) (_ : ChangeSpec) (c : OpenClaim) => ((c.plainKeys == P.plainKeys))) Tryz.prog 5 Tryz.f5 Rows.scriptManySpec Rows.scriptManyRow = true := by kernel_rfl
theorem scriptMany_fact23 : (fun (_ : Program) (f : FuncId) (_ : Func) (_ : ChangeSpec) (c : OpenClaim) => (c.shortTexts.isNone)) Tryz.prog 5 Tryz.f5 Rows.scriptManySpec Rows.scriptManyRow = true := by kernel_rfl
end Go.Proofs.YtbjhkhhbdlnfbaaGreatDoor
namespace Go.Proofs.YtbjhkhhbdlnfbaaGreatDoor
open Go.RowKit

theorem scriptMany_fact24 : (fun (P : Program) (f : FuncId) (_ : Func) (_ : ChangeSpec) (_ : OpenClaim) => (P.stopsHeard)) Tryz.prog 5 Tryz.f5 Rows.scriptManySpec Rows.scriptManyRow = true := by kernel_rfl
theorem scriptMany_fact25 : (fun (P : Program) (f : FuncId) (_ : Func) (_ : ChangeSpec) (_ : OpenClaim) => (P.mayEnter)) Tryz.prog 5 Tryz.f5 Rows.scriptManySpec Rows.scriptManyRow = true := by kernel_rfl
theorem scriptMany_fact26 : (fun (P : Program) (f : FuncId) (_ : Func) (_ : ChangeSpec) (c : OpenClaim) => ((c.lifted == P.liftsFinal))) Tryz.prog 5 Tryz.f5 Rows.scriptManySpec Rows.scriptManyRow = true := by kernel_rfl
theorem scriptMany_fact27 : (fun (P : Program) (f : FuncId) (_ : Func) (_ : ChangeSpec) (c : OpenClaim) => ((P.make == some c.make))) Tryz.prog 5 Tryz.f5 Rows.scriptManySpec Rows.scriptManyRow = true := by kernel_rfl
theorem scriptMany_fact28 : (fun (P : Program) (f : FuncId) (fn : Func) (_ : ChangeSpec) (c : OpenClaim) => ((c.kinds == (if c.domain.isEmpty then [] else fn.params.toList.map fun t => match P.underlying t with | some (.int k) => some k | _ => none)))) Tryz.prog 5 Tryz.f5 Rows.scriptManySpec Rows.scriptManyRow = true := by kernel_rfl
theorem scriptMany_fact29 : (fun (_ : Program) (f : FuncId) (_ : Func) (_ : ChangeSpec) (c : OpenClaim) => ((c.pinned == c.pinnedBy))) Tryz.prog 5 Tryz.f5 Rows.scriptManySpec Rows.scriptManyRow = true := by kernel_rfl
theorem scriptMany_fact30 : (fun (P : Program) (f : FuncId) (fn : Func) (s : ChangeSpec) (c : OpenClaim) => ((c.veiled == (fn.params.toList ++ s.plain.varTypes P ++ fn.resultTypes.toList).any (P.veiledRec ·)))) Tryz.prog 5 Tryz.f5 Rows.scriptManySpec Rows.scriptManyRow = true := by kernel_rfl
theorem scriptMany_fact31 : (fun (P : Program) (f : FuncId) (fn : Func) (s : ChangeSpec) (c : OpenClaim) => (c.veiledFits P fn.params.toList (fn.params.toList ++ s.plain.varTypes P ++ fn.resultTypes.toList))) Tryz.prog 5 Tryz.f5 Rows.scriptManySpec Rows.scriptManyRow = true := by kernel_rfl
end Go.Proofs.YtbjhkhhbdlnfbaaGreatDoor
