/-
  Closed facts of the row of ScriptMany, part 2 of 4. No condition.
-/
import Derived.WalkKit
import Derived.WalkSpells
import Derived.WalkLawsBesides
import Derived.Deep.Light
import Derived.Deep.RegionHeld3
import Derived.Deep.MidRow
import Derived.Lib.Hide
import Derived.Test.YtbjhkhhbdlnfbaaGreatDoorK7
import Derived.Test.YtbjhkhhbdlnfbaaGreatDoorRows
namespace Go.Proofs.YtbjhkhhbdlnfbaaGreatDoor
open Go.RowKit

theorem scriptMany_fact8 : (fun (P : Program) (f : FuncId) (_ : Func) (_ : ChangeSpec) (_ : OpenClaim) => ((P.stopKnobs == []))) Tryz.prog 5 Tryz.f5 Rows.scriptManySpec Rows.scriptManyRow = true := by kernel_rfl
theorem scriptMany_fact9 : (fun (P : Program) (f : FuncId) (_ : Func) (_ : ChangeSpec) (c : OpenClaim) => ((c.inPlace == P.inPlace f))) Tryz.prog 5 Tryz.f5 Rows.scriptManySpec Rows.scriptManyRow = true := by kernel_rfl
theorem scriptMany_fact10 : (fun (P : Program) (f : FuncId) (_ : Func) (_ : ChangeSpec) (c : OpenClaim) => ((c.unfollowed == P.unfollowed f))) Tryz.prog 5 Tryz.f5 Rows.scriptManySpec Rows.scriptManyRow = true := by kernel_rfl
theorem scriptMany_fact11 : (fun (P : Program) (f : FuncId) (_ : Func) (_ : ChangeSpec) (c : OpenClaim) => ((c.recurses == P.recurses f))) Tryz.prog 5 Tryz.f5 Rows.scriptManySpec Rows.scriptManyRow = true := by kernel_rfl
theorem scriptMany_fact12 : (fun (P : Program) (f : FuncId) (_ : Func) (_ : ChangeSpec) (c : OpenClaim) => ((c.named == P.varsNamed f))) Tryz.prog 5 Tryz.f5 Rows.scriptManySpec Rows.scriptManyRow = true := by kernel_rfl
theorem scriptMany_fact13 : (fun (P : Program) (f : FuncId) (fn : Func) (s : ChangeSpec) (c : OpenClaim) => ((c.maps == (fn.params.toList ++ s.plain.varTypes P).any (P.mapsRec ·)))) Tryz.prog 5 Tryz.f5 Rows.scriptManySpec Rows.scriptManyRow = true := by kernel_rfl
theorem scriptMany_fact14 : (fun (P : Program) (f : FuncId) (fn : Func) (s : ChangeSpec) (c : OpenClaim) => ((c.ifaces == (fn.params.toList ++ s.plain.varTypes P).any (P.ifacesRec ·)))) Tryz.prog 5 Tryz.f5 Rows.scriptManySpec Rows.scriptManyRow = true := by kernel_rfl
theorem scriptMany_fact15 : (fun (P : Program) (f : FuncId) (fn : Func) (_ : ChangeSpec) (c : OpenClaim) => ((c.mapsOut == P.mapsAmong fn.resultTypes.toList))) Tryz.prog 5 Tryz.f5 Rows.scriptManySpec Rows.scriptManyRow = true := by kernel_rfl
end Go.Proofs.YtbjhkhhbdlnfbaaGreatDoor
