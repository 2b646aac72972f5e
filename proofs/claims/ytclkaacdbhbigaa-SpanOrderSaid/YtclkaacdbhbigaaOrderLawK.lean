/-
  The law SpanOrder of layer 50: the given statement, proved. No condition.
-/
import Derived.Test.YtclkaacdbhbigaaLaw
import Derived.Test.YtclkaacdbhbigaaReads
import Derived.Test.YtclkaacdbhbigaaPrK
namespace Go.Proofs.Ytclkaacdbhbigaa.V
open Go.ChangeShapes Go.WideShapes Go.ChangeAt Go.RowKit

set_option maxRecDepth 100000 in
theorem spanOrder_walk {H : Type} (enc : TypeId × Value → H) (W : World) (base : Nat) (args : Array Value) (ds : List (DataW H)) (p : List MemPlace)
    (hval : ∀ (j : Nat) t v, Try.f5.params[j]? = some t → args[j]? = some v → Value.okWide Try.prog W .any base t v)
    (hA : DataW.TrodAll enc Try.prog W 0 (fun _ => true) true Try.f5.params.toList args.toList ds p) :
    Calls Try.prog 5 args W fun e W' => e = .returned (.bool true) ∧ Below W.heap.size W W' := by
  rw [Try.params5] at hA hval
  obtain ⟨v0, r0, d0, s0, p0, q0, ha, rfl, rfl, h0, hA⟩ := trodAll_cons hA
  obtain ⟨v1, r1, d1, s1, p1, q1, rfl, rfl, rfl, h1, hA⟩ := trodAll_cons hA
  obtain ⟨v2, r2, d2, s2, p2, q2, rfl, rfl, rfl, h2, hA⟩ := trodAll_cons hA
  obtain ⟨rfl, rfl, rfl⟩ := trodAll_nil hA
  have hargs : args = #[v0, v1, v2] := by apply Array.ext'; rw [ha]
  subst hargs
  obtain ⟨n0, rfl, rfl, rfl, w0⟩ := open_int Try.underlying22 (hval 0 22 v0 rfl rfl) h0
  obtain ⟨pa1, pl1, pc1, rfl⟩ := okWide_slice Try.underlying46 (hval 1 46 v1 rfl rfl)
  obtain ⟨fuel1, hf1⟩ := h1
  obtain ⟨L1, e1, o1⟩ := rows_read (encD := rgD) (encV := rgV) (k := 2) (ok := Sp.Rg.ok) (fun _ => rfl) Try.underlying46 (by kernel_rfl) (by decide) (fun _ => rfl) (fun _ _ _ h => rg_elem h) hf1
  have l1 : L1.length ≤ 9223372036854775807 := by rw [rows_len e1]; exact okWide_len Try.underlying46 (hval 1 46 _ rfl rfl)
  obtain ⟨pa2, pl2, pc2, rfl⟩ := okWide_slice Try.underlying52 (hval 2 52 v2 rfl rfl)
  obtain ⟨fuel2, hf2⟩ := h2
  obtain ⟨L2, e2, o2⟩ := rows_read (encD := intsD) (encV := intsV) (k := 1) (ok := fun _ => True) (fun _ => rfl) Try.underlying52 (by kernel_rfl) (by decide) (fun _ => rfl) (fun _ _ _ h => int_elem h) hf2
  refine calls_of_fn (spanOrder_fn n0 L1 L2 o1 l1) ⟨rfl, fun j d u hd hu => ?_⟩
  match j, hd, hu with
  | 0, hd, hu => simp at hd hu; subst hd hu; exact .v
  | 1, hd, hu => simp at hd hu; subst hd hu; exact e1
  | 2, hd, hu => simp at hd hu; subst hd hu; exact e2
end Go.Proofs.Ytclkaacdbhbigaa.V

namespace Go.Proofs.Ytclkaacdbhbigaa
open Go.ChangeShapes Go.WideShapes Go.ChangeAt Go.RowKit
set_option maxRecDepth 100000 in
theorem spanOrder_lifted (os : Os) (started : os.Started) (H : Type) (enc : TypeId × Value → H) :
    ReturnsInHanded {} Try.checked os 5 .any (Rows.spanOrderSpec.pre6 enc Try.prog Try.f5 [] false) (Rows.spanOrderSpec.post enc Try.prog Try.f5 false true false false) :=
  law_lifted Try.func5 (by kernel_rfl) rfl rfl Try.underlying4 (by kernel_rfl) os started H enc
    (fun ds hds => by match ds, hds with | [_, _, _], _ => exact ⟨rfl, rfl, rfl⟩)
    (ChangeSpec.witness6 (enc := enc) (C := Try.checked) false ⟨#[], zeroArgs Try.prog Try.f5, []⟩ 8 (by kernel_rfl) (by kernel_rfl) (by kernel_rfl) (by kernel_rfl))
    (V.spanOrder_walk enc)

theorem spanOrder_holds : Rows.SpanOrderSaid :=
  OpenClaim.holds_of_wide 5 Try.f5 rfl rfl rfl rfl rfl rfl rfl ⟨rfl, rfl, rfl, rfl, rfl⟩ rfl rfl rfl rfl rfl (by kernel_rfl) Try.func5 (by kernel_rfl)
    (of_decide_eq_true (by kernel_rfl)) (by unfold Func.isWrapper; first | (rw [if_pos (by decide +kernel)]; kernel_rfl) | (rw [if_neg (by decide +kernel)]; exact ⟨rfl, rfl⟩))
    (fun os started H enc _ => spanOrder_lifted os started H enc)
#print axioms spanOrder_holds
end Go.Proofs.Ytclkaacdbhbigaa
