/-
  The law FilterMatches: which filters may be, and whether any packet is wanted by any. Conditions: none on the arguments.
-/
import Derived.Test.YtgodclgcfpmloaaLaw
import Derived.Test.YtgodclgcfpmloaaReads
import Derived.Test.YtgodclgcfpmloaaFihK
import Derived.Test.YtgodclgcfpmloaaK7
import Derived.Test.YtgodclgcfpmloaaFigK
namespace Go.Proofs.Ytgodclgcfpmloaa.V
open Go.ChangeShapes Go.WideShapes Go.ChangeAt Go.RowKit

set_option maxRecDepth 100000 in
theorem filterMatches_walk {H : Type} (enc : TypeId × Value → H) (W : World) (base : Nat) (args : Array Value) (ds : List (DataW H)) (p : List MemPlace)
    (hval : ∀ (j : Nat) t v, Try.f4.params[j]? = some t → args[j]? = some v → Value.okWide Try.prog W .any base t v)
    (hA : DataW.TrodAll enc Try.prog W 0 (fun _ => true) true Try.f4.params.toList args.toList ds p) :
    Calls Try.prog 4 args W fun e W' => e = .returned (.bool true) ∧ Below W.heap.size W W' := by
  rw [Try.params4] at hA hval
  obtain ⟨v0, r0, d0, s0, p0, q0, ha, rfl, rfl, h0, hA⟩ := trodAll_cons hA
  obtain ⟨v1, r1, d1, s1, p1, q1, rfl, rfl, rfl, h1, hA⟩ := trodAll_cons hA
  obtain ⟨rfl, rfl, rfl⟩ := trodAll_nil hA
  have hargs : args = #[v0, v1] := by apply Array.ext'; rw [ha]
  subst hargs
  obtain ⟨pa0, pl0, pc0, rfl⟩ := okWide_slice Try.underlying22 (hval 0 22 v0 rfl rfl)
  obtain ⟨fuel0, hf0⟩ := h0
  obtain ⟨L0, e0, o0⟩ := rows_read (encD := fstD) (encV := fstV) (k := 3) (ok := (fun a => a.addr < 4294967296)) (fun _ => rfl) Try.underlying22 (by kernel_rfl) (by decide) (fun _ => rfl) (fun _ _ _ h => fst_elem h) hf0
  obtain ⟨x1, e1, o1⟩ := pkt_read (hval 1 27 v1 rfl rfl) h1
  refine calls_of_fn (filterMatches_fn lives45_fn L0 x1 o0 o1) ⟨rfl, fun j d u hd hu => ?_⟩
  match j, hd, hu with
  | 0, hd, hu => simp at hd hu; subst hd hu; exact e0
  | 1, hd, hu => simp at hd hu; subst hd hu; exact e1
end Go.Proofs.Ytgodclgcfpmloaa.V

namespace Go.Proofs.Ytgodclgcfpmloaa
open Go.ChangeShapes Go.WideShapes Go.ChangeAt Go.RowKit
def filterMatches_zeros (P : Program) (fn : Func) : Array Value := fn.params.map fun t => match P.info? t with
  | some i => i.zero.getD undef
  | none => undef
set_option maxRecDepth 100000 in
theorem filterMatches_lifted (os : Os) (started : os.Started) (H : Type) (enc : TypeId × Value → H) :
    ReturnsInHanded {} Try.checked os 4 .any (Rows.filterMatchesSpec.pre6 enc Try.prog Try.f4 [] false) (Rows.filterMatchesSpec.post enc Try.prog Try.f4 false true false false) :=
  law_lifted Try.func4 (by kernel_rfl) rfl rfl Try.underlying4 (by kernel_rfl) os started H enc
    (fun ds hds => by match ds, hds with | [_, _], _ => exact ⟨rfl, rfl, rfl⟩)
    (ChangeSpec.witness6 (enc := enc) (C := Try.checked) false ⟨#[], filterMatches_zeros Try.prog Try.f4, []⟩ 8 (by kernel_rfl) (by kernel_rfl) (by kernel_rfl) (by kernel_rfl))
    (V.filterMatches_walk enc)

theorem filterMatches_holds : Rows.FilterMatchesSaid :=
  OpenClaim.holds_of_wide 4 Try.f4 rfl rfl rfl rfl rfl rfl rfl ⟨rfl, rfl, rfl, rfl, rfl⟩ rfl rfl rfl rfl rfl (by kernel_rfl) Try.func4 (by kernel_rfl)
    (of_decide_eq_true (by kernel_rfl)) (by unfold Func.isWrapper; first | (rw [if_pos (by decide +kernel)]; kernel_rfl) | (rw [if_neg (by decide +kernel)]; exact ⟨rfl, rfl⟩))
    (fun os started H enc _ => filterMatches_lifted os started H enc)
#print axioms filterMatches_holds
end Go.Proofs.Ytgodclgcfpmloaa
