/-
  The law WheelOnce of layer 17: the given statement, proved. No condition.
-/
import Derived.Test.YtcbpdjikdohegaaLaw
import Derived.Test.YtcbpdjikdohegaaReads
import Derived.Test.YtcbpdjikdohegaaOzK
namespace Go.Proofs.Ytcbpdjikdohegaa.V
open Go.ChangeShapes Go.WideShapes Go.ChangeAt Go.RowKit

set_option maxRecDepth 100000 in
theorem wheelOnce_walk {H : Type} (enc : TypeId × Value → H) (W : World) (base : Nat) (args : Array Value) (ds : List (DataW H)) (p : List MemPlace)
    (hval : ∀ (j : Nat) t v, Try.f6.params[j]? = some t → args[j]? = some v → Value.okWide Try.prog W .any base t v)
    (hA : DataW.TrodAll enc Try.prog W 0 (fun _ => true) true Try.f6.params.toList args.toList ds p) :
    Calls Try.prog 6 args W fun e W' => e = .returned (.bool true) ∧ Below W.heap.size W W' := by
  rw [Try.params6] at hA hval
  obtain ⟨v0, r0, d0, s0, p0, q0, ha, rfl, rfl, h0, hA⟩ := trodAll_cons hA
  obtain ⟨v1, r1, d1, s1, p1, q1, rfl, rfl, rfl, h1, hA⟩ := trodAll_cons hA
  obtain ⟨rfl, rfl, rfl⟩ := trodAll_nil hA
  have hargs : args = #[v0, v1] := by apply Array.ext'; rw [ha]
  subst hargs
  obtain ⟨n0, rfl, rfl, rfl, w0⟩ := open_int Try.underlying3 (hval 0 3 v0 rfl rfl) h0
  obtain ⟨pa1, pl1, pc1, rfl⟩ := okWide_slice Try.underlying63 (hval 1 63 v1 rfl rfl)
  obtain ⟨fuel1, hf1⟩ := h1
  obtain ⟨L1, e1, o1⟩ := rows_read (encD := deD) (encV := deV) (k := 3) (ok := fun _ => True) (fun _ => rfl) Try.underlying63 (by kernel_rfl) (by decide) (fun _ => rfl) (fun _ _ _ h => de_elem h) hf1
  refine calls_of_fn (once_fn n0 L1) ⟨rfl, fun j d u hd hu => ?_⟩
  match j, hd, hu with
  | 0, hd, hu => simp at hd hu; subst hd hu; exact .v
  | 1, hd, hu => simp at hd hu; subst hd hu; exact e1
end Go.Proofs.Ytcbpdjikdohegaa.V

namespace Go.Proofs.Ytcbpdjikdohegaa
open Go.ChangeShapes Go.WideShapes Go.ChangeAt Go.RowKit
/-- Zero values: the row's own example. -/
def wheelOnce_zeros (P : Program) (fn : Func) : Array Value := fn.params.map fun t => match P.info? t with
  | some i => i.zero.getD undef
  | none => undef
set_option maxRecDepth 100000 in
theorem wheelOnce_lifted (os : Os) (started : os.Started) (H : Type) (enc : TypeId × Value → H) :
    ReturnsInHanded {} Try.checked os 6 .any (Rows.wheelOnceSpec.pre6 enc Try.prog Try.f6 [] false) (Rows.wheelOnceSpec.post enc Try.prog Try.f6 false true false false) :=
  law_lifted Try.func6 (by kernel_rfl) rfl rfl Try.underlying4 (by kernel_rfl) os started H enc
    (fun ds hds => by match ds, hds with | [_, _], _ => exact ⟨rfl, rfl, rfl⟩)
    (ChangeSpec.witness6 (enc := enc) (C := Try.checked) false ⟨#[], wheelOnce_zeros Try.prog Try.f6, []⟩ 8 (by kernel_rfl) (by kernel_rfl) (by kernel_rfl) (by kernel_rfl))
    (V.wheelOnce_walk enc)

theorem wheelOnce_holds : Rows.WheelOnceSaid :=
  OpenClaim.holds_of_wide 6 Try.f6 rfl rfl rfl rfl rfl rfl rfl ⟨rfl, rfl, rfl, rfl, rfl⟩ rfl rfl rfl rfl rfl (by kernel_rfl) Try.func6 (by kernel_rfl)
    (of_decide_eq_true (by kernel_rfl)) (by unfold Func.isWrapper; first | (rw [if_pos (by decide +kernel)]; kernel_rfl) | (rw [if_neg (by decide +kernel)]; exact ⟨rfl, rfl⟩))
    (fun os started H enc _ => wheelOnce_lifted os started H enc)
#print axioms wheelOnce_holds
end Go.Proofs.Ytcbpdjikdohegaa
