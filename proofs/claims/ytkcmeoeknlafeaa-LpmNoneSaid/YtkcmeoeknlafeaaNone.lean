/-
  The law LpmNone of layer 44: the given statement, proved. No condition.
-/
import Derived.Test.YtkcmeoeknlafeaaCeL
namespace Go.Proofs.Ytkcmeoeknlafeaa
open Go.ChangeShapes Go.WideShapes Go.ChangeAt Go.RowKit

theorem none_runs : comesTrue Try.prog 100000 60 4 (tokenArgs Try.prog Try.f4.params.toList 0).toArray = true := by kernel_rfl

set_option maxRecDepth 100000 in
theorem none_lifted (os : Os) (started : os.Started) (H : Type) (enc : TypeId × Value → H) :
    ReturnsInHanded {} Try.checked os 4 .any (Rows.lpmNoneSpec.pre6 enc Try.prog Try.f4 [] false) (Rows.lpmNoneSpec.post enc Try.prog Try.f4 false true false false) :=
  law_lifted Try.func4 (by kernel_rfl) rfl rfl Try.underlying4 (by kernel_rfl) os started H enc
    (fun ds hds => by match ds, hds with | [_], _ => exact ⟨rfl, rfl, rfl⟩)
    (ChangeSpec.witness6 (enc := enc) (C := Try.checked) false ⟨#[], #[.agg #[.int .u32 0, .int .i64 0, .int .i64 0]], []⟩ 8 (by kernel_rfl) (by kernel_rfl) (by kernel_rfl) (by kernel_rfl))
    (token_walk none_runs enc)

theorem none_holds : Rows.LpmNoneSaid :=
  OpenClaim.holds_of_wide 4 Try.f4 rfl rfl rfl rfl rfl rfl rfl ⟨rfl, rfl, rfl, rfl, rfl⟩ rfl rfl rfl rfl rfl (by kernel_rfl) Try.func4 (by kernel_rfl)
    (of_decide_eq_true (by kernel_rfl)) (by unfold Func.isWrapper; first | (rw [if_pos (by decide +kernel)]; kernel_rfl) | (rw [if_neg (by decide +kernel)]; exact ⟨rfl, rfl⟩))
    (fun os started H enc _ => none_lifted os started H enc)
#print axioms none_holds
end Go.Proofs.Ytkcmeoeknlafeaa
