/-
  The law TrackEnds of layer 23: the given statement, proved. No condition.
-/
import Derived.Test.YtcbpdjikdohegaaLaw
import Derived.Test.YtcbpdjikdohegaaReads
import Derived.Test.YtcbpdjikdohegaaKnK
namespace Go.Proofs.Ytcbpdjikdohegaa.V
open Go.ChangeShapes Go.WideShapes Go.ChangeAt Go.RowKit

set_option maxRecDepth 100000 in
theorem trackEnds_walk {H : Type} (enc : TypeId × Value → H) (W : World) (base : Nat) (args : Array Value) (ds : List (DataW H)) (p : List MemPlace)
    (hval : ∀ (j : Nat) t v, Try.f8.params[j]? = some t → args[j]? = some v → Value.okWide Try.prog W .any base t v)
    (hA : DataW.TrodAll enc Try.prog W 0 (fun _ => true) true Try.f8.params.toList args.toList ds p) :
    Calls Try.prog 8 args W fun e W' => e = .returned (.bool true) ∧ Below W.heap.size W W' := by
  rw [Try.params8] at hA hval
  obtain ⟨v0, r0, d0, s0, p0, q0, ha, rfl, rfl, h0, hA⟩ := trodAll_cons hA
  obtain ⟨v1, r1, d1, s1, p1, q1, rfl, rfl, rfl, h1, hA⟩ := trodAll_cons hA
  obtain ⟨v2, r2, d2, s2, p2, q2, rfl, rfl, rfl, h2, hA⟩ := trodAll_cons hA
  obtain ⟨rfl, rfl, rfl⟩ := trodAll_nil hA
  have hargs : args = #[v0, v1, v2] := by apply Array.ext'; rw [ha]
  subst hargs
  obtain ⟨n0, rfl, rfl, rfl, w0⟩ := open_int Try.underlying3 (hval 0 3 v0 rfl rfl) h0
  obtain ⟨x1, e1, o1⟩ := key_read (hval 1 24 v1 rfl rfl) h1
  obtain ⟨pa2, pl2, pc2, rfl⟩ := okWide_slice Try.underlying81 (hval 2 81 v2 rfl rfl)
  obtain ⟨fuel2, hf2⟩ := h2
  obtain ⟨L2, e2, o2⟩ := rows_read (encD := tdD) (encV := tdV) (k := 15) (ok := TdOk) (fun _ => rfl) Try.underlying81 (by kernel_rfl) (by decide) (fun _ => rfl) (fun _ _ _ h => td_elem h) hf2
  refine calls_of_fn (ends_fn n0 x1.1 x1.2 L2 o2) ⟨rfl, fun j d u hd hu => ?_⟩
  match j, hd, hu with
  | 0, hd, hu => simp at hd hu; subst hd hu; exact .v
  | 1, hd, hu => simp at hd hu; subst hd hu; exact e1
  | 2, hd, hu => simp at hd hu; subst hd hu; exact e2
end Go.Proofs.Ytcbpdjikdohegaa.V

namespace Go.Proofs.Ytcbpdjikdohegaa
open Go.ChangeShapes Go.WideShapes Go.ChangeAt Go.RowKit
/-- Zero values: the row's own example. -/
def trackEnds_zeros (P : Program) (fn : Func) : Array Value := fn.params.map fun t => match P.info? t with
  | some i => i.zero.getD undef
  | none => undef
set_option maxRecDepth 100000 in
theorem trackEnds_lifted (os : Os) (started : os.Started) (H : Type) (enc : TypeId × Value → H) :
    ReturnsInHanded {} Try.checked os 8 .any (Rows.trackEndsSpec.pre6 enc Try.prog Try.f8 [] false) (Rows.trackEndsSpec.post enc Try.prog Try.f8 false true false false) :=
  law_lifted Try.func8 (by kernel_rfl) rfl rfl Try.underlying4 (by kernel_rfl) os started H enc
    (fun ds hds => by match ds, hds with | [_, _, _], _ => exact ⟨rfl, rfl, rfl⟩)
    (ChangeSpec.witness6 (enc := enc) (C := Try.checked) false ⟨#[], trackEnds_zeros Try.prog Try.f8, []⟩ 8 (by kernel_rfl) (by kernel_rfl) (by kernel_rfl) (by kernel_rfl))
    (V.trackEnds_walk enc)

theorem trackEnds_holds : Rows.TrackEndsSaid :=
  OpenClaim.holds_of_wide 8 Try.f8 rfl rfl rfl rfl rfl rfl rfl ⟨rfl, rfl, rfl, rfl, rfl⟩ rfl rfl rfl rfl rfl (by kernel_rfl) Try.func8 (by kernel_rfl)
    (of_decide_eq_true (by kernel_rfl)) (by unfold Func.isWrapper; first | (rw [if_pos (by decide +kernel)]; kernel_rfl) | (rw [if_neg (by decide +kernel)]; exact ⟨rfl, rfl⟩))
    (fun os started H enc _ => trackEnds_lifted os started H enc)
#print axioms trackEnds_holds
end Go.Proofs.Ytcbpdjikdohegaa
