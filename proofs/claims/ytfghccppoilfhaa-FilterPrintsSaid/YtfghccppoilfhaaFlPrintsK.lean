/-
  The law FilterPrints: which text any right filter is, and that it is read again. Conditions: none on the arguments.
-/
import Derived.Test.YtfghccppoilfhaaLaw
import Derived.Test.YtfghccppoilfhaaReads
import Derived.Test.YtfghccppoilfhaaFihK
import Derived.Test.YtfghccppoilfhaaFpkK
import Derived.Test.YtfghccppoilfhaaFigK
namespace Go.Proofs.Ytfghccppoilfhaa.V
open Go.ChangeShapes Go.WideShapes Go.ChangeAt Go.RowKit

set_option maxRecDepth 100000 in
theorem filterPrints_walk {H : Type} (enc : TypeId × Value → H) (W : World) (base : Nat) (args : Array Value) (ds : List (DataW H)) (p : List MemPlace)
    (hval : ∀ (j : Nat) t v, Try.f3.params[j]? = some t → args[j]? = some v → Value.okWide Try.prog W .any base t v)
    (hA : DataW.TrodAll enc Try.prog W 0 (fun _ => true) true Try.f3.params.toList args.toList ds p) :
    Calls Try.prog 3 args W fun e W' => e = .returned (.bool true) ∧ Below W.heap.size W W' := by
  rw [Try.params3] at hA hval
  obtain ⟨v0, r0, d0, s0, p0, q0, ha, rfl, rfl, h0, hA⟩ := trodAll_cons hA
  obtain ⟨rfl, rfl, rfl⟩ := trodAll_nil hA
  have hargs : args = #[v0] := by apply Array.ext'; rw [ha]
  subst hargs
  obtain ⟨pa0, pl0, pc0, rfl⟩ := okWide_slice Try.underlying22 (hval 0 22 v0 rfl rfl)
  obtain ⟨fuel0, hf0⟩ := h0
  obtain ⟨L0, e0, o0⟩ := rows_read (encD := fstD) (encV := fstV) (k := 3) (ok := (fun a => a.addr < 4294967296)) (fun _ => rfl) Try.underlying22 (by kernel_rfl) (by decide) (fun _ => rfl) (fun _ _ _ h => fst_elem h) hf0
  refine calls_of_fn (filterPrints_fn lives45_fn L0 o0) ⟨rfl, fun j d u hd hu => ?_⟩
  match j, hd, hu with
  | 0, hd, hu => simp at hd hu; subst hd hu; exact e0
end Go.Proofs.Ytfghccppoilfhaa.V

namespace Go.Proofs.Ytfghccppoilfhaa
open Go.ChangeShapes Go.WideShapes Go.ChangeAt Go.RowKit
def filterPrints_zeros (P : Program) (fn : Func) : Array Value := fn.params.map fun t => match P.info? t with
  | some i => i.zero.getD undef
  | none => undef
set_option maxRecDepth 100000 in
theorem filterPrints_lifted (os : Os) (started : os.Started) (H : Type) (enc : TypeId × Value → H) :
    ReturnsInHanded {} Try.checked os 3 .any (Rows.filterPrintsSpec.pre6 enc Try.prog Try.f3 [] false) (Rows.filterPrintsSpec.post enc Try.prog Try.f3 false true false false) :=
  law_lifted Try.func3 (by kernel_rfl) rfl rfl Try.underlying4 (by kernel_rfl) os started H enc
    (fun ds hds => by match ds, hds with | [_], _ => exact ⟨rfl, rfl, rfl⟩)
    (ChangeSpec.witness6 (enc := enc) (C := Try.checked) false ⟨#[], filterPrints_zeros Try.prog Try.f3, []⟩ 8 (by kernel_rfl) (by kernel_rfl) (by kernel_rfl) (by kernel_rfl))
    (V.filterPrints_walk enc)

theorem filterPrints_holds : Rows.FilterPrintsSaid :=
  OpenClaim.holds_of_wide 3 Try.f3 rfl rfl rfl rfl rfl rfl rfl ⟨rfl, rfl, rfl, rfl, rfl⟩ rfl rfl rfl rfl rfl (by kernel_rfl) Try.func3 (by kernel_rfl)
    (of_decide_eq_true (by kernel_rfl)) (by unfold Func.isWrapper; first | (rw [if_pos (by decide +kernel)]; kernel_rfl) | (rw [if_neg (by decide +kernel)]; exact ⟨rfl, rfl⟩))
    (fun os started H enc _ => filterPrints_lifted os started H enc)
#print axioms filterPrints_holds
end Go.Proofs.Ytfghccppoilfhaa
