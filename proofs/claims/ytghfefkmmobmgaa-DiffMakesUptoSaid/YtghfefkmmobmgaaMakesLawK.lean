/-
  The law DiffMakes of layer 48, where what comes in is of bulk at most 1048576: the given statement, proved. No condition.
-/
import Derived.Test.YtghfefkmmobmgaaLaw
import Derived.Test.YtghfefkmmobmgaaReads
import Derived.Test.YtghfefkmmobmgaaUpto
import Derived.Test.YtghfefkmmobmgaaDeedReadsK
import Derived.Test.YtghfefkmmobmgaaK5
namespace Go.Proofs.Ytghfefkmmobmgaa.V
open Go.ChangeShapes Go.WideShapes Go.ChangeAt Go.RowKit

set_option maxRecDepth 100000 in
theorem diffMakes_walk {H : Type} (enc : TypeId × Value → H) (W : World) (base : Nat) (args : Array Value) (ds : List (DataW H)) (p : List MemPlace) (hbulk : Rows.uptoBulkAll ds ≤ 1048576)
    (hval : ∀ (j : Nat) t v, Try.f10.params[j]? = some t → args[j]? = some v → Value.okWide Try.prog W .any base t v)
    (hA : DataW.TrodAll enc Try.prog W 0 (fun _ => true) true Try.f10.params.toList args.toList ds p) :
    Calls Try.prog 10 args W fun e W' => e = .returned (.bool true) ∧ Below W.heap.size W W' := by
  rw [Try.params10] at hA hval
  obtain ⟨v0, r0, d0, s0, p0, q0, ha, rfl, rfl, h0, hA⟩ := trodAll_cons hA
  obtain ⟨v1, r1, d1, s1, p1, q1, rfl, rfl, rfl, h1, hA⟩ := trodAll_cons hA
  obtain ⟨v2, r2, d2, s2, p2, q2, rfl, rfl, rfl, h2, hA⟩ := trodAll_cons hA
  obtain ⟨rfl, rfl, rfl⟩ := trodAll_nil hA
  have hargs : args = #[v0, v1, v2] := by apply Array.ext'; rw [ha]
  subst hargs
  obtain ⟨pa0, pl0, pc0, rfl⟩ := okWide_slice Try.underlying42 (hval 0 42 v0 rfl rfl)
  obtain ⟨fuel0, hf0⟩ := h0
  obtain ⟨L0, e0, o0⟩ := rows_read (encD := deedD) (encV := deedV) (k := 13) (ok := Deed.ok) (fun _ => rfl) Try.underlying42 (by kernel_rfl) (by decide) (fun _ => rfl) (fun _ _ _ h => deed_elem h) hf0
  obtain ⟨pa1, pl1, pc1, rfl⟩ := okWide_slice Try.underlying42 (hval 1 42 v1 rfl rfl)
  obtain ⟨fuel1, hf1⟩ := h1
  obtain ⟨L1, e1, o1⟩ := rows_read (encD := deedD) (encV := deedV) (k := 13) (ok := Deed.ok) (fun _ => rfl) Try.underlying42 (by kernel_rfl) (by decide) (fun _ => rfl) (fun _ _ _ h => deed_elem h) hf1
  obtain ⟨n2, rfl, rfl, rfl, w2⟩ := open_int Try.underlying30 (hval 2 30 v2 rfl rfl) h2
  have l0 : L0.length ≤ 1048576 := by
    have h1 := bulk_slice Try.underlying42 hf0
    dsimp only at h1
    cases e0
    simp only [Rows.uptoBulkAll] at hbulk
    omega
  have l1 : L1.length ≤ 1048576 := by
    have h1 := bulk_slice Try.underlying42 hf1
    dsimp only at h1
    cases e1
    simp only [Rows.uptoBulkAll] at hbulk
    omega
  have b2 := bounds_u64 w2
  refine calls_of_fn (diffMakes_fn L0 L1 n2 o0 o1 l0 l1 b2.1) ⟨rfl, fun j d u hd hu => ?_⟩
  match j, hd, hu with
  | 0, hd, hu => simp at hd hu; subst hd hu; exact e0
  | 1, hd, hu => simp at hd hu; subst hd hu; exact e1
  | 2, hd, hu => simp at hd hu; subst hd hu; exact .v
end Go.Proofs.Ytghfefkmmobmgaa.V

namespace Go.Proofs.Ytghfefkmmobmgaa
open Go.ChangeShapes Go.WideShapes Go.ChangeAt Go.RowKit
set_option maxRecDepth 100000 in
theorem diffMakes_lifted (os : Os) (started : os.Started) (H : Type) (enc : TypeId × Value → H) (F : Stop.Interp) :
    ReturnsInHanded {} Try.checked os 10 .any ((Rows.OpenSpec.upto Rows.diffMakesSpec).pre6 enc Try.prog Try.f10 [] false) (((Rows.OpenSpec.upto Rows.diffMakesSpec).at F).post enc Try.prog Try.f10 false true false false) :=
  law_lifted_upto Try.func10 (by kernel_rfl) rfl rfl Try.underlying4 (by kernel_rfl) os started H enc F
    (fun ds hds => by match ds, hds with | [_, _, _], _ => exact ⟨rfl, rfl, rfl⟩)
    (OpenSpec.witness (enc := enc) (C := Try.checked) (s := Rows.OpenSpec.upto Rows.diffMakesSpec) (k := Rows.uptoSmall) rfl false ⟨#[], zeroArgs Try.prog Try.f10, []⟩ 8 (by kernel_rfl) (by kernel_rfl) (by kernel_rfl)
      (x := ([.nil, .nil, .lit (.int .u64 0)], [], [])) (by kernel_rfl) rfl (by kernel_rfl))
    (V.diffMakes_walk enc)

theorem diffMakes_holds : Rows.DiffMakesUptoSaid :=
  OpenClaim.holds_of_cond 10 Try.f10 rfl rfl rfl rfl rfl rfl rfl ⟨rfl, rfl, rfl, rfl, rfl⟩ rfl rfl rfl rfl rfl (by kernel_rfl) Try.func10 (by kernel_rfl)
    (of_decide_eq_true (by kernel_rfl)) (by unfold Func.isWrapper; first | (rw [if_pos (by decide +kernel)]; kernel_rfl) | (rw [if_neg (by decide +kernel)]; exact ⟨rfl, rfl⟩))
    (fun os started H enc _ F => diffMakes_lifted os started H enc F)
#print axioms diffMakes_holds
end Go.Proofs.Ytghfefkmmobmgaa
