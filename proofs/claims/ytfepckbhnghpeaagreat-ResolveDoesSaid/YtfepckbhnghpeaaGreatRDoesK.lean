/-
  The law ResolveDoes. No condition.
-/
import Derived.Test.YtfepckbhnghpeaaGreatLaw
import Derived.Test.YtfepckbhnghpeaaGreatReads
import Derived.Test.YtfepckbhnghpeaaGreatK20
import Derived.Test.YtfepckbhnghpeaaGreatEoK
namespace Go.Proofs.YtfepckbhnghpeaaGreat.V
open Go.ChangeShapes Go.WideShapes Go.ChangeAt Go.RowKit

set_option maxRecDepth 100000 in
theorem resolveDoes_walk {H : Type} (enc : TypeId × Value → H) (W : World) (base : Nat) (args : Array Value) (ds : List (DataW H)) (p : List MemPlace)
    (hval : ∀ (j : Nat) t v, Tryz.f3.params[j]? = some t → args[j]? = some v → Value.okWide Tryz.prog W .any base t v)
    (hA : DataW.TrodAll enc Tryz.prog W 0 (fun _ => true) true Tryz.f3.params.toList args.toList ds p) :
    Calls Tryz.prog 3 args W fun e W' => e = .returned (.bool true) ∧ Below W.heap.size W W' := by
  rw [Tryz.params3] at hA hval
  obtain ⟨v0, r0, d0, s0, p0, q0, ha, rfl, rfl, h0, hA⟩ := trodAll_cons hA
  obtain ⟨v1, r1, d1, s1, p1, q1, rfl, rfl, rfl, h1, hA⟩ := trodAll_cons hA
  obtain ⟨v2, r2, d2, s2, p2, q2, rfl, rfl, rfl, h2, hA⟩ := trodAll_cons hA
  obtain ⟨rfl, rfl, rfl⟩ := trodAll_nil hA
  have hargs : args = #[v0, v1, v2] := by apply Array.ext'; rw [ha]
  subst hargs
  obtain ⟨x0, e0, o0⟩ := cfgw_read (hval 0 33 v0 rfl rfl) h0
  obtain ⟨n1, rfl, rfl, rfl, w1⟩ := open_int Tryz.underlying3 (hval 1 3 v1 rfl rfl) h1
  obtain ⟨pa2, pl2, pc2, rfl⟩ := okWide_slice Tryz.underlying34 (hval 2 34 v2 rfl rfl)
  obtain ⟨fuel2, hf2⟩ := h2
  obtain ⟨x2, e2, o2⟩ := ndes_read hf2
  refine calls_of_fn (resolveDoes_fn lives37_fn x0 o0 n1 x2 o2) ⟨rfl, fun j d u hd hu => ?_⟩
  match j, hd, hu with
  | 0, hd, hu => simp at hd hu; subst hd hu; exact e0
  | 1, hd, hu => simp at hd hu; subst hd hu; exact .v
  | 2, hd, hu => simp at hd hu; subst hd hu; exact e2
end Go.Proofs.YtfepckbhnghpeaaGreat.V

namespace Go.Proofs.YtfepckbhnghpeaaGreat
open Go.ChangeShapes Go.WideShapes Go.ChangeAt Go.RowKit
def resolveDoes_zeros (P : Program) (fn : Func) : Array Value := fn.params.map fun t => match P.info? t with
  | some i => i.zero.getD undef
  | none => undef
set_option maxRecDepth 100000 in
theorem resolveDoes_lifted (os : Os) (started : os.Started) (H : Type) (enc : TypeId × Value → H) :
    ReturnsInHanded {} Tryz.checked os 3 .any (Rows.resolveDoesSpec.pre6 enc Tryz.prog Tryz.f3 [] false) (Rows.resolveDoesSpec.post enc Tryz.prog Tryz.f3 false true false false) :=
  law_lifted Tryz.func3 (by kernel_rfl) rfl rfl Tryz.underlying4 (by kernel_rfl) os started H enc
    (fun ds hds => by match ds, hds with | [_, _, _], _ => exact ⟨rfl, rfl, rfl⟩)
    (ChangeSpec.witness6 (enc := enc) (C := Tryz.checked) false ⟨#[], resolveDoes_zeros Tryz.prog Tryz.f3, []⟩ 8 (by kernel_rfl) (by kernel_rfl) (by kernel_rfl) (by kernel_rfl))
    (V.resolveDoes_walk enc)

theorem resolveDoes_holds : Rows.ResolveDoesSaid :=
  OpenClaim.holds_of_wide 3 Tryz.f3 rfl rfl rfl rfl rfl rfl rfl ⟨rfl, rfl, rfl, rfl, rfl⟩ rfl rfl rfl rfl rfl (by kernel_rfl) Tryz.func3 (by kernel_rfl)
    (of_decide_eq_true (by kernel_rfl)) (by unfold Func.isWrapper; first | (rw [if_pos (by decide +kernel)]; kernel_rfl) | (rw [if_neg (by decide +kernel)]; exact ⟨rfl, rfl⟩))
    (fun os started H enc _ => resolveDoes_lifted os started H enc)
#print axioms resolveDoes_holds
end Go.Proofs.YtfepckbhnghpeaaGreat
