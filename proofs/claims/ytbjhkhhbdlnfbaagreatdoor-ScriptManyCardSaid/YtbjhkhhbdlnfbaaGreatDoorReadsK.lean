/-
  Slices of structs that come in, read as rows by value. No condition beyond the reading.
-/
import Derived.Test.YtbjhkhhbdlnfbaaGreatDoorK1
import Derived.Test.YtbjhkhhbdlnfbaaGreatDoorVmK
import Derived.Deep.Slices
namespace Go.Proofs.YtbjhkhhbdlnfbaaGreatDoor.V
open Go.ChangeShapes Go.WideShapes Go.ChangeAt Go.RowKit Go.Deep

theorem wf_i64 {n : Int} (h : (Lit.int .i64 n).wf = true) : -9223372036854775808 ≤ n ∧ n ≤ 9223372036854775807 := bounds_i64 h

section
variable {H : Type} {enc : TypeId × Value → H} {W : World} {P : Program}

theorem calls_of_fn {f : FuncId} {args : List D} {vs : Array Value} (h : Fn P f args fun d => d = .v (.bool true)) (hr : reps (baseCtx W fun b => b < W.heap.size) args vs.toList) :
    Calls P f vs W fun e W' => e = .returned (.bool true) ∧ Below W.heap.size W W' := by
  have := h.2 W _ vs.toList (fun b hb => hb) hr
  refine this.mono fun e w' hh => ?_
  obtain ⟨d, v, rfl, rfl, h1, h2⟩ := hh
  rw [rep_v h2]
  exact ⟨rfl, h1.toBelow⟩
end
end Go.Proofs.YtbjhkhhbdlnfbaaGreatDoor.V
