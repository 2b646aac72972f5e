/-
  The law WheelNone of linkboylaw17: the given statement, proved. No condition.
-/
import Derived.Test.YthehlpkklajpeaaCeL
namespace Go.Proofs.Ythehlpkklajpeaa
open Go.ChangeShapes Go.WideShapes Go.ChangeAt Go.RowKit

theorem wheelNone_runs : comesTrue Try.prog 100000 60 6 (tokenArgs Try.prog Try.f6.params.toList 0).toArray = true := by kernel_rfl

set_option maxRecDepth 100000 in
theorem wheelNone_lifted (os : Os) (started : os.Started) (H : Type) (enc : TypeId × Value → H) :
    ReturnsInHanded {} Try.checked os 6 .any (Rows.wheelNoneSpec.pre6 enc Try.prog Try.f6 [] false) (Rows.wheelNoneSpec.post enc Try.prog Try.f6 false true false false) :=
  law_lifted Try.func6 (by kernel_rfl) rfl rfl Try.underlying4 (by kernel_rfl) os started H enc
    (fun ds hds => by match ds, hds with | [_, _], _ => exact ⟨rfl, rfl, rfl⟩)
    (ChangeSpec.witness6 (enc := enc) (C := Try.checked) false ⟨#[], zeroArgs Try.prog Try.f6, []⟩ 8 (by kernel_rfl) (by kernel_rfl) (by kernel_rfl) (by kernel_rfl))
    (token_walk wheelNone_runs enc)

theorem wheelNone_holds : Rows.WheelNoneSaid :=
  OpenClaim.holds_of_wide 6 Try.f6 rfl rfl rfl rfl rfl rfl rfl ⟨rfl, rfl, rfl, rfl, rfl⟩ rfl rfl rfl rfl rfl (by kernel_rfl) Try.func6 (by kernel_rfl)
    (of_decide_eq_true (by kernel_rfl)) (by unfold Func.isWrapper; first | (rw [if_pos (by decide +kernel)]; kernel_rfl) | (rw [if_neg (by decide +kernel)]; exact ⟨rfl, rfl⟩))
    (fun os started H enc _ => wheelNone_lifted os started H enc)
#print axioms wheelNone_holds
end Go.Proofs.Ythehlpkklajpeaa
