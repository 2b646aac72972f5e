/-
  The program's cache: how many places; its deeds, whatever stands. Conditions: the cache stands right, not too much is known.
-/
import Derived.Test.YtfepckbhnghpeaaGreatK11
import Derived.Test.YtfepckbhnghpeaaGreatRow
namespace Go.Proofs.YtfepckbhnghpeaaGreat
open Go.RowKit
set_option maxRecDepth 100000 in
theorem len_walk (g b : Nat) (es : Array MapEntry) (clk : Nat) (w : World) (hc : w.cell? ⟨g, 41, none⟩ = some (.map (some b))) (hb : w.heap[b]? = some (.map es clk)) :
    Calls Tryz.prog 52 #[.pointer (some ⟨g, 0, none⟩)] w fun e w' => e = .returned (.int .i64 (es.size : Nat)) ∧ w = w' := by
  have hl : ∀ ty, (Builtin.len_ #[112] ty #[.map (some b)]).run Tryz.prog w = .ok (.int .i64 (es.size : Nat)) w := fun ty => by simp [Builtin.len_, run_underlying Tryz.underlying112, goInt, getObj, Sem.run, hb]
  go_enter Tryz.func52, Tryz.ntmps52
  go_wp2
  go_ret
  exact ⟨rfl, rfl⟩
end Go.Proofs.YtfepckbhnghpeaaGreat
namespace Go.Proofs.YtfepckbhnghpeaaGreat.V
open Go.RowKit
attribute [local irreducible] Fn FnN OpVC ArC FnR

end Go.Proofs.YtfepckbhnghpeaaGreat.V
