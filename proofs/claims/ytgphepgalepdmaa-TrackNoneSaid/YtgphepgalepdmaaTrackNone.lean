/-
  The law TrackNone of linkboylaw23: the given statement, proved. No condition.
-/
import Derived.Test.YtgphepgalepdmaaCeL
namespace Go.Proofs.Ytgphepgalepdmaa
open Go.ChangeShapes Go.WideShapes Go.ChangeAt Go.RowKit

theorem trackNone_runs : comesTrue Try.prog 100000 60 4 (tokenArgs Try.prog Try.f4.params.toList 0).toArray = true := by kernel_rfl

set_option maxRecDepth 100000 in
theorem trackNone_lifted (os : Os) (started : os.Started) (H : Type) (enc : TypeId × Value → H) :
    ReturnsInHanded {} Try.checked os 4 .any (Rows.trackNoneSpec.pre6 enc Try.prog Try.f4 [] false) (Rows.trackNoneSpec.post enc Try.prog Try.f4 false true false false) :=
  law_lifted Try.func4 (by kernel_rfl) rfl rfl Try.underlying4 (by kernel_rfl) os started H enc
    (fun ds hds => by match ds, hds with | [_, _], _ => exact ⟨rfl, rfl, rfl⟩)
    (ChangeSpec.witness6 (enc := enc) (C := Try.checked) false ⟨#[], zeroArgs Try.prog Try.f4, []⟩ 8 (by kernel_rfl) (by kernel_rfl) (by kernel_rfl) (by kernel_rfl))
    (token_walk trackNone_runs enc)

theorem trackNone_holds : Rows.TrackNoneSaid :=
  OpenClaim.holds_of_wide 4 Try.f4 rfl rfl rfl rfl rfl rfl rfl ⟨rfl, rfl, rfl, rfl, rfl⟩ rfl rfl rfl rfl rfl (by kernel_rfl) Try.func4 (by kernel_rfl)
    (of_decide_eq_true (by kernel_rfl)) (by unfold Func.isWrapper; first | (rw [if_pos (by decide +kernel)]; kernel_rfl) | (rw [if_neg (by decide +kernel)]; exact ⟨rfl, rfl⟩))
    (fun os started H enc _ => trackNone_lifted os started H enc)
#print axioms trackNone_holds
end Go.Proofs.Ytgphepgalepdmaa
