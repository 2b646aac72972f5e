/-
  The law HostNone of linkboylaw40: the given statement, proved. No condition.
-/
import Derived.Test.YtfdpaognkjebeaaGreatCeL
import Derived.Test.YtfdpaognkjebeaaGreatQhz
import Derived.Test.YtfdpaognkjebeaaGreatQhf
namespace Go.Proofs.YtfdpaognkjebeaaGreat
open Go.ChangeShapes Go.WideShapes Go.ChangeAt Go.RowKit

theorem hostNone_runs : asksTrue Tryz.prog (askLives 13) 100000 60 3 (tokenArgs Tryz.prog Tryz.f3.params.toList 0).toArray = true := by kernel_rfl

set_option maxRecDepth 100000 in
theorem hostNone_lifted (os : Os) (started : os.Started) (H : Type) (enc : TypeId × Value → H) :
    ReturnsInHanded {} Tryz.checked os 3 .any (Rows.hostNoneSpec.pre6 enc Tryz.prog Tryz.f3 [] false) (Rows.hostNoneSpec.post enc Tryz.prog Tryz.f3 false true false false) :=
  law_lifted Tryz.func3 (by kernel_rfl) rfl rfl Tryz.underlying4 (by kernel_rfl) os started H enc
    (fun ds hds => by match ds, hds with | [_], _ => exact ⟨rfl, rfl, rfl⟩)
    (ChangeSpec.witness6 (enc := enc) (C := Tryz.checked) false ⟨#[], zeroArgs Tryz.prog Tryz.f3, []⟩ 8 (by kernel_rfl) (by kernel_rfl) (by kernel_rfl) (by kernel_rfl))
    (fun W base args ds p hval hA => ask_walk (T := fun _ => True) (askLives_ok qhcalls) hostNone_runs enc W base args ds p hval hA trivial)

theorem hostNone_holds : Rows.HostNoneSaid :=
  OpenClaim.holds_of_wide 3 Tryz.f3 rfl rfl rfl rfl rfl rfl rfl ⟨rfl, rfl, rfl, rfl, rfl⟩ rfl rfl rfl rfl rfl (by kernel_rfl) Tryz.func3 hostNone_facts
    (of_decide_eq_true (by kernel_rfl)) hostNone_wrap
    (fun os started H enc _ => hostNone_lifted os started H enc)
#print axioms hostNone_holds
end Go.Proofs.YtfdpaognkjebeaaGreat
