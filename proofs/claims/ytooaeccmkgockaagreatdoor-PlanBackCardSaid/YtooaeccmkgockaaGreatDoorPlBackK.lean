/-
  The law PlanBack: which lines make any farm that may be, and that they make it, but that nobody is up. Conditions: the two tables of unicode/utf8 lie as the library's text lays them (the card ties them); none on the arguments.
-/
import Derived.Test.YtooaeccmkgockaaGreatDoorJqK
import Derived.Test.YtooaeccmkgockaaGreatDoorK10
import Derived.Test.YtooaeccmkgockaaGreatDoorK6
namespace Go.Proofs.YtooaeccmkgockaaGreatDoor.V
open Go.ChangeShapes Go.WideShapes Go.ChangeAt Go.RowKit

set_option maxRecDepth 100000 in
theorem planBack_walk {H : Type} (enc : TypeId × Value → H) (W : World) (base : Nat) (args : Array Value) (ds : List (DataW H)) (p : List MemPlace)
    (hval : ∀ (j : Nat) t v, Tryz.f5.params[j]? = some t → args[j]? = some v → Value.okWide Tryz.prog W .any base t v)
    (hA : DataW.TrodAll enc Tryz.prog W 0 (fun _ => true) true Tryz.f5.params.toList args.toList ds p) :
    Calls Tryz.prog 5 args W fun e W' => e = .returned (.bool true) ∧ Below W.heap.size W W' := by
  rw [Tryz.params5] at hA hval
  obtain ⟨v0, r0, d0, s0, p0, q0, ha, rfl, rfl, h0, hA⟩ := trodAll_cons hA
  obtain ⟨v1, r1, d1, s1, p1, q1, rfl, rfl, rfl, h1, hA⟩ := trodAll_cons hA
  obtain ⟨rfl, rfl, rfl⟩ := trodAll_nil hA
  have hargs : args = #[v0, v1] := by apply Array.ext'; rw [ha]
  subst hargs
  obtain ⟨pa0, pl0, pc0, rfl⟩ := okWide_slice Tryz.underlying52 (hval 0 52 v0 rfl rfl)
  obtain ⟨g0, hf0⟩ := h0
  obtain ⟨x0, e0, o0⟩ := rows_read (encD := deedD) (encV := deedV) (k := 13) (ok := Deed.ok) (fun _ => rfl) Tryz.underlying52 (by kernel_rfl) (by decide) (fun _ => rfl) (fun _ _ _ h => deed_elem h) hf0
  obtain ⟨V1, B1, e1, wV1, wB1⟩ := farm_read (hval 1 45 v1 rfl rfl) h1
  refine calls_of_fn (planBack_fn x0 o0 V1 B1 wV1 wB1) ⟨rfl, fun j d u hd hu => ?_⟩
  match j, hd, hu with
  | 0, hd, hu => simp at hd hu; subst hd hu; exact e0
  | 1, hd, hu => simp at hd hu; subst hd hu; exact e1
end Go.Proofs.YtooaeccmkgockaaGreatDoor.V

namespace Go.Proofs.YtooaeccmkgockaaGreatDoor
open Go.ChangeShapes Go.WideShapes Go.ChangeAt Go.RowKit
set_option maxRecDepth 100000 in
theorem planBack_lifted (os : Os) (started : os.Started) (H : Type) (enc : TypeId × Value → H) :
    ReturnsInHanded {} Tryz.checked os 5 .any (fun w args => (Rows.planBackSpec.pre enc Tryz.prog Tryz.f5 [] false w args ∧ laidMetH Tryz.prog doorLaidList w) ∧ sizedMet enc Tryz.prog Tryz.f5 (OpenSpec.ofChange Rows.planBackSpec) false w args) (Rows.planBackSpec.post enc Tryz.prog Tryz.f5 false true false false) :=
  law_lifted_door Tryz.func5 (by kernel_rfl) rfl rfl Tryz.underlying4 (by kernel_rfl) os started H enc
    (fun ds hds => by match ds, hds with | [_, _], _ => exact ⟨rfl, rfl, rfl⟩)
    (ChangeSpec.witness_shaped (enc := enc) (C := Tryz.checked) (os := os) (X := fun w _ => laidMetH Tryz.prog doorLaidList w) false (doorWorld os) (doorZeros Tryz.prog Tryz.f5) 8 rfl (World.shaped_of_RefB (by kernel_rfl) (by kernel_rfl)) (by kernel_rfl) (by kernel_rfl) (by kernel_rfl) (door_met os _))
    (V.planBack_walk enc)
theorem planBack_row : Rows.PlanBackSaid :=
  OpenClaim.holds_of_wide 5 Tryz.f5 rfl rfl rfl rfl rfl rfl rfl ⟨rfl, rfl, rfl, rfl, rfl⟩ rfl rfl rfl rfl rfl (by kernel_rfl) Tryz.func5 (by kernel_rfl)
    (of_decide_eq_true (by kernel_rfl)) (by unfold Func.isWrapper; first | (rw [if_pos (by decide +kernel)]; kernel_rfl) | (rw [if_neg (by decide +kernel)]; exact ⟨rfl, rfl⟩))
    (fun os started H enc _ => planBack_lifted os started H enc)
theorem planBack_holds : Rows.PlanBackCardSaid :=
  Claim7.holds_tied_plain_at .later [] [.data, .pinned] true (true, "e54d33ee9eaede0d99c04dc904ffe9adf5491f5d1b183822a83679d107176d64") false
    planBack_row (fun _ h => by cases h) (by kernel_rfl) (fun _ h => by cases h) planBack_row_tie rfl ⟨rfl, rfl⟩ (by kernel_rfl) rfl
    (fun f fn hf hfn => by
      obtain rfl : f = 5 := Option.some.inj ((show Tryz.prog.funcNamed "linkboy/linkboylaw47.PlanBack" = some 5 by kernel_rfl).symm.trans hf) |>.symm
      obtain rfl : fn = Tryz.f5 := (Option.some.inj (Tryz.func5.symm.trans hfn)).symm
      exact ⟨by kernel_rfl, fun j t ht => by
        rw [Tryz.params5] at ht
        match j, ht with
        | 0, ht =>
          have e : t = 52 := by simpa using ht.symm
          subst e
          exact (show Tryz.prog.wantsStandIn 52 = false by kernel_rfl)
        | 1, ht =>
          have e : t = 45 := by simpa using ht.symm
          subst e
          exact (show Tryz.prog.wantsStandIn 45 = false by kernel_rfl)
        | n + 2, ht => simp at ht⟩)
    (by kernel_rfl)
#print axioms planBack_holds
end Go.Proofs.YtooaeccmkgockaaGreatDoor
