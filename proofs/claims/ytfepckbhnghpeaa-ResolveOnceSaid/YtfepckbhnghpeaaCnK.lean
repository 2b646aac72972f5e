/-
  The program's cache: how many places; its deeds, whatever stands. Conditions: the cache stands right, not too much is known.
-/
import Derived.Test.YtfepckbhnghpeaaK11
import Derived.Test.YtfepckbhnghpeaaRow
namespace Go.Proofs.Ytfepckbhnghpeaa
open Go.RowKit
set_option maxRecDepth 100000 in
theorem len_walk (g b : Nat) (es : Array MapEntry) (clk : Nat) (w : World) (hc : w.cell? ⟨g, 41, none⟩ = some (.map (some b))) (hb : w.heap[b]? = some (.map es clk)) :
    Calls Try.prog 44 #[.pointer (some ⟨g, 0, none⟩)] w fun e w' => e = .returned (.int .i64 (es.size : Nat)) ∧ w = w' := by
  have hl : ∀ ty, (Builtin.len_ #[106] ty #[.map (some b)]).run Try.prog w = .ok (.int .i64 (es.size : Nat)) w := fun ty => by simp [Builtin.len_, run_underlying Try.underlying106, goInt, getObj, Sem.run, hb]
  go_enter Try.func44, Try.ntmps44
  go_wp2
  go_ret
  exact ⟨rfl, rfl⟩
end Go.Proofs.Ytfepckbhnghpeaa
namespace Go.Proofs.Ytfepckbhnghpeaa.V
open Go.RowKit
attribute [local irreducible] Fn FnN OpVC ArC FnR

end Go.Proofs.Ytfepckbhnghpeaa.V
