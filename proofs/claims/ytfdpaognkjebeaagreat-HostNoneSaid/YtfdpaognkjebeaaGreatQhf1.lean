/-
  Closed facts of the row of HostNone, part 1 of 4. No condition.
-/
import Derived.Test.YtfdpaognkjebeaaGreatRow
import Derived.Test.YtfdpaognkjebeaaGreatFacts
import Derived.Test.YtfdpaognkjebeaaGreatRows
namespace Go.Proofs.YtfdpaognkjebeaaGreat
open Go.RowKit

theorem hostNone_fact0 : (fun (P : Program) (f : FuncId) (fn : Func) (s : ChangeSpec) (c : OpenClaim) => (c.wf (OpenSpec.ofChange s))) Tryz.prog 3 Tryz.f3 Rows.hostNoneSpec Rows.hostNoneRow = true := by kernel_rfl
theorem hostNone_fact1 : (fun (P : Program) (f : FuncId) (fn : Func) (s : ChangeSpec) (c : OpenClaim) => (laidOutB P)) Tryz.prog 3 Tryz.f3 Rows.hostNoneSpec Rows.hostNoneRow = true := by kernel_rfl
theorem hostNone_fact2 : (fun (P : Program) (f : FuncId) (fn : Func) (s : ChangeSpec) (c : OpenClaim) => (mapsRowed P)) Tryz.prog 3 Tryz.f3 Rows.hostNoneSpec Rows.hostNoneRow = true := by kernel_rfl
theorem hostNone_fact3 : (fun (P : Program) (f : FuncId) (fn : Func) (s : ChangeSpec) (c : OpenClaim) => (fn.params.all (P.readableRec ·))) Tryz.prog 3 Tryz.f3 Rows.hostNoneSpec Rows.hostNoneRow = true := by kernel_rfl
theorem hostNone_fact4 : (fun (P : Program) (f : FuncId) (fn : Func) (s : ChangeSpec) (c : OpenClaim) => (namedTie P c.named s.vars)) Tryz.prog 3 Tryz.f3 Rows.hostNoneSpec Rows.hostNoneRow = true := by kernel_rfl
theorem hostNone_fact5 : (fun (P : Program) (f : FuncId) (fn : Func) (s : ChangeSpec) (c : OpenClaim) => ((c.stops == []))) Tryz.prog 3 Tryz.f3 Rows.hostNoneSpec Rows.hostNoneRow = true := by kernel_rfl
theorem hostNone_fact6 : (fun (P : Program) (f : FuncId) (fn : Func) (s : ChangeSpec) (c : OpenClaim) => ((P.stops == []))) Tryz.prog 3 Tryz.f3 Rows.hostNoneSpec Rows.hostNoneRow = true := by kernel_rfl
theorem hostNone_fact7 : (fun (P : Program) (f : FuncId) (fn : Func) (s : ChangeSpec) (c : OpenClaim) => ((c.knobs == []))) Tryz.prog 3 Tryz.f3 Rows.hostNoneSpec Rows.hostNoneRow = true := by kernel_rfl
end Go.Proofs.YtfdpaognkjebeaaGreat
