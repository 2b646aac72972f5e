/-
  The law CacheNone of linkboylaw24: the given statement, proved. No condition.
-/
import Derived.Test.YtnabphcnbephdaaCeL
namespace Go.Proofs.Ytnabphcnbephdaa
open Go.ChangeShapes Go.WideShapes Go.ChangeAt Go.RowKit

theorem cacheNone_runs : comesTrue Try.prog 100000 60 6 (tokenArgs Try.prog Try.f6.params.toList 0).toArray = true := by kernel_rfl

set_option maxRecDepth 100000 in
theorem cacheNone_lifted (os : Os) (started : os.Started) (H : Type) (enc : TypeId × Value → H) :
    ReturnsInHanded {} Try.checked os 6 .any (Rows.cacheNoneSpec.pre6 enc Try.prog Try.f6 [] false) (Rows.cacheNoneSpec.post enc Try.prog Try.f6 false true false false) :=
  law_lifted Try.func6 (by kernel_rfl) rfl rfl Try.underlying4 (by kernel_rfl) os started H enc
    (fun ds hds => by match ds, hds with | [_, _, _], _ => exact ⟨rfl, rfl, rfl⟩)
    (ChangeSpec.witness6 (enc := enc) (C := Try.checked) false ⟨#[], zeroArgs Try.prog Try.f6, []⟩ 8 (by kernel_rfl) (by kernel_rfl) (by kernel_rfl) (by kernel_rfl))
    (token_walk cacheNone_runs enc)

theorem cacheNone_holds : Rows.CacheNoneSaid :=
  OpenClaim.holds_of_wide 6 Try.f6 rfl rfl rfl rfl rfl rfl rfl ⟨rfl, rfl, rfl, rfl, rfl⟩ rfl rfl rfl rfl rfl (by kernel_rfl) Try.func6 (by kernel_rfl)
    (of_decide_eq_true (by kernel_rfl)) (by unfold Func.isWrapper; first | (rw [if_pos (by decide +kernel)]; kernel_rfl) | (rw [if_neg (by decide +kernel)]; exact ⟨rfl, rfl⟩))
    (fun os started H enc _ => cacheNone_lifted os started H enc)
#print axioms cacheNone_holds
end Go.Proofs.Ytnabphcnbephdaa
