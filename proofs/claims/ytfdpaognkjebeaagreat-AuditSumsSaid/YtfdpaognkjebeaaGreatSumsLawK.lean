/-
  The law AuditSums of layer 51: the given statement, proved. No condition.
-/
import Derived.Test.YtfdpaognkjebeaaGreatLaw
import Derived.Test.YtfdpaognkjebeaaGreatReads
import Derived.Test.YtfdpaognkjebeaaGreatK2
import Derived.Test.YtfdpaognkjebeaaGreatQaf
namespace Go.Proofs.YtfdpaognkjebeaaGreat.V
open Go.ChangeShapes Go.WideShapes Go.ChangeAt Go.RowKit

set_option maxRecDepth 100000 in
theorem auditSums_walk {H : Type} (enc : TypeId × Value → H) (W : World) (base : Nat) (args : Array Value) (ds : List (DataW H)) (p : List MemPlace)
    (hval : ∀ (j : Nat) t v, Tryz.f4.params[j]? = some t → args[j]? = some v → Value.okWide Tryz.prog W .any base t v)
    (hA : DataW.TrodAll enc Tryz.prog W 0 (fun _ => true) true Tryz.f4.params.toList args.toList ds p) :
    Calls Tryz.prog 4 args W fun e W' => e = .returned (.bool true) ∧ Below W.heap.size W W' := by
  rw [Tryz.params4] at hA hval
  obtain ⟨v0, r0, d0, s0, p0, q0, ha, rfl, rfl, h0, hA⟩ := trodAll_cons hA
  obtain ⟨rfl, rfl, rfl⟩ := trodAll_nil hA
  have hargs : args = #[v0] := by apply Array.ext'; rw [ha]
  subst hargs
  obtain ⟨pa0, pl0, pc0, rfl⟩ := okWide_slice Tryz.underlying50 (hval 0 50 v0 rfl rfl)
  obtain ⟨fuel0, hf0⟩ := h0
  obtain ⟨L0, e0, o0⟩ := rows_read (encD := ldD) (encV := ldV) (k := 3) (ok := fun _ => True) (fun _ => rfl) Tryz.underlying50 (by kernel_rfl) (by decide) (fun _ => rfl) (fun _ _ _ h => ld_elem h) hf0
  refine calls_of_fn (auditSums_fn L0) ⟨rfl, fun j d u hd hu => ?_⟩
  match j, hd, hu with
  | 0, hd, hu => simp at hd hu; subst hd hu; exact e0
end Go.Proofs.YtfdpaognkjebeaaGreat.V

namespace Go.Proofs.YtfdpaognkjebeaaGreat
open Go.ChangeShapes Go.WideShapes Go.ChangeAt Go.RowKit
set_option maxRecDepth 100000 in
theorem auditSums_lifted (os : Os) (started : os.Started) (H : Type) (enc : TypeId × Value → H) :
    ReturnsInHanded {} Tryz.checked os 4 .any (Rows.auditSumsSpec.pre6 enc Tryz.prog Tryz.f4 [] false) (Rows.auditSumsSpec.post enc Tryz.prog Tryz.f4 false true false false) :=
  law_lifted Tryz.func4 (by kernel_rfl) rfl rfl Tryz.underlying4 (by kernel_rfl) os started H enc
    (fun ds hds => by match ds, hds with | [_], _ => exact ⟨rfl, rfl, rfl⟩)
    (ChangeSpec.witness6 (enc := enc) (C := Tryz.checked) false ⟨#[], zeroArgs Tryz.prog Tryz.f4, []⟩ 8 (by kernel_rfl) (by kernel_rfl) (by kernel_rfl) (by kernel_rfl))
    (V.auditSums_walk enc)

theorem auditSums_holds : Rows.AuditSumsSaid :=
  OpenClaim.holds_of_wide 4 Tryz.f4 rfl rfl rfl rfl rfl rfl rfl ⟨rfl, rfl, rfl, rfl, rfl⟩ rfl rfl rfl rfl rfl (by kernel_rfl) Tryz.func4 auditSums_facts
    (of_decide_eq_true (by kernel_rfl)) auditSums_wrap
    (fun os started H enc _ => auditSums_lifted os started H enc)
#print axioms auditSums_holds
end Go.Proofs.YtfdpaognkjebeaaGreat
