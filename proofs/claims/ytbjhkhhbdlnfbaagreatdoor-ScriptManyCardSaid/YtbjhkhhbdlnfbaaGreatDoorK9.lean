/-
  The script's lives: some of its calls, run. Printed by a program (dev/chunk.sh). No condition.
  The script's lives: the rest, run. Printed by a program (dev/chunk.sh). No condition.
  The script's lives: it answers true in each world. Printed by a program (dev/chunk.sh). No condition.
-/
import Derived.Test.YtbjhkhhbdlnfbaaGreatDoorK8
namespace Go.Proofs.YtbjhkhhbdlnfbaaGreatDoor
open Go.RowKit
theorem qsr372 : memoRuns Tryz.prog qst372 100000 60 43 qsa372 qsb372 qsv372 qsc372 = true := by kernel_rfl
theorem qsr38 : memoRuns Tryz.prog qst38 100000 60 19 qsa38 qsb38 qsv38 qsc38 = true := by kernel_rfl
end Go.Proofs.YtbjhkhhbdlnfbaaGreatDoor
namespace Go.Proofs.YtbjhkhhbdlnfbaaGreatDoor
open Go.RowKit
theorem qsruns : memTrue Tryz.prog qstop 100000 60 13 #[] = true := by kernel_rfl
end Go.Proofs.YtbjhkhhbdlnfbaaGreatDoor
namespace Go.Proofs.YtbjhkhhbdlnfbaaGreatDoor
open Go.RowKit
theorem qst90_ok : CallOk Tryz.prog (fun _ => True) qst90 := lvBase_ok
theorem qst106_ok : CallOk Tryz.prog (fun _ => True) qst106 := lvBase_ok
theorem qst89_ok : CallOk Tryz.prog (fun _ => True) qst89 := (memo_step law_zeros law_calls law_mixed qst90_ok (memo_step law_zeros law_calls law_mixed qst106_ok lvBase_ok qsr106) qsr90)
theorem qst233_ok : CallOk Tryz.prog (fun _ => True) qst233 := lvBase_ok
theorem qst249_ok : CallOk Tryz.prog (fun _ => True) qst249 := lvBase_ok
theorem qst232_ok : CallOk Tryz.prog (fun _ => True) qst232 := (memo_step law_zeros law_calls law_mixed qst233_ok (memo_step law_zeros law_calls law_mixed qst249_ok lvBase_ok qsr249) qsr233)
theorem qst372_ok : CallOk Tryz.prog (fun _ => True) qst372 := lvBase_ok
theorem qst38_ok : CallOk Tryz.prog (fun _ => True) qst38 := (memo_step law_zeros law_calls law_mixed qst89_ok (memo_step law_zeros law_calls law_mixed qst232_ok (memo_step law_zeros law_calls law_mixed qst372_ok lvBase_ok qsr372) qsr232) qsr89)
theorem qstop_ok : CallOk Tryz.prog (fun _ => True) qstop := (memo_step law_zeros law_calls law_mixed qst38_ok lvBase_ok qsr38)
theorem qscalls (w : World) : Calls Tryz.prog 13 #[] w fun e w' => e = .returned (.bool true) ∧ V.Under w.heap.size w w' := mem_true law_zeros law_calls law_mixed qstop_ok 100000 60 13 qsruns w
end Go.Proofs.YtbjhkhhbdlnfbaaGreatDoor
