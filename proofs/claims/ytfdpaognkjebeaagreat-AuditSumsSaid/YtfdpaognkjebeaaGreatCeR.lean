/-
  Calls with plain arguments that come to a plain value on abstract memory. No condition.
-/
import Derived.Test.YtfdpaognkjebeaaGreatCeL
namespace Go.Proofs.YtfdpaognkjebeaaGreat
open Go.RowKit

/-- It comes to a nil slice. -/
def comesNil (P : Program) (steps d : Nat) (f : FuncId) (args : Array Value) : Bool := match comesTo P steps d f args with
  | some (.slice none 0 0) => true
  | _ => false
theorem comes_nil (steps d : Nat) (f : FuncId) (h : comesNil Tryz.prog steps d f #[.pointer none] = true) (w : World) : Calls Tryz.prog f #[.pointer none] w fun e w' => e = .returned (.slice none 0 0) ∧ Below w.heap.size w w' := by
  unfold comesNil comesTo at h
  split at h
  · rename_i hb
    split at hb
    · rename_i v m' hv
      injection hb with hb; subst hb
      refine (evalCall_sound law_zeros law_calls law_mixed steps d f #[.pointer none] am0 _ m' hv ⟨w, fun _ => False⟩ ⟨fun _ => none, fun _ => .bool false, fun _ => rfl⟩ w #[.pointer none] trivial (am0_rel (fun _ => .bool false) (fun _ => rfl) w) ⟨rfl, fun i v v' hv hv' => ?_⟩).mono fun e w' hh => ?_
      · match i, hv, hv' with
        | 0, hv, hv' =>
          simp at hv hv'
          subst hv hv'
          exact .nilPtr
        | i + 1, hv, _ => simp at hv
      · obtain ⟨σ', v', rfl, _, g2, g3⟩ := hh
        cases g3
        exact ⟨rfl, ⟨g2.below.os, g2.below.tape, g2.below.output, g2.below.size, fun k hk => g2.below.block k hk (fun h => h)⟩⟩
    · cases hb
  · cases h
end Go.Proofs.YtfdpaognkjebeaaGreat
