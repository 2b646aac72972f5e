/-
  The law ScriptTexts: the lines of any steps, and the steps that any lines are, are the document's; what was written is read. Conditions: the two tables of unicode/utf8 lie as the library's text lays them (the card ties them); none on the arguments.
-/
import Derived.Test.YtbjhkhhbdlnfbaaGreatDoorK9
import Derived.Test.YtbjhkhhbdlnfbaaGreatDoorQTfK
import Derived.Test.YtbjhkhhbdlnfbaaGreatDoorK6
import Derived.Test.YtbjhkhhbdlnfbaaGreatDoorK13
namespace Go.Proofs.YtbjhkhhbdlnfbaaGreatDoor.V
open Go.ChangeShapes Go.WideShapes Go.ChangeAt Go.RowKit

set_option maxRecDepth 100000 in
theorem scriptTexts_walk {H : Type} (enc : TypeId × Value → H) (W : World) (base : Nat) (args : Array Value) (ds : List (DataW H)) (p : List MemPlace)
    (hval : ∀ (j : Nat) t v, Tryz.f4.params[j]? = some t → args[j]? = some v → Value.okWide Tryz.prog W .any base t v)
    (hA : DataW.TrodAll enc Tryz.prog W 0 (fun _ => true) true Tryz.f4.params.toList args.toList ds p) :
    Calls Tryz.prog 4 args W fun e W' => e = .returned (.bool true) ∧ Below W.heap.size W W' := by
  rw [Tryz.params4] at hA hval
  obtain ⟨v0, r0, d0, s0, p0, q0, ha, rfl, rfl, h0, hA⟩ := trodAll_cons hA
  obtain ⟨v1, r1, d1, s1, p1, q1, rfl, rfl, rfl, h1, hA⟩ := trodAll_cons hA
  obtain ⟨rfl, rfl, rfl⟩ := trodAll_nil hA
  have hargs : args = #[v0, v1] := by apply Array.ext'; rw [ha]
  subst hargs
  obtain ⟨pa0, pl0, pc0, rfl⟩ := okWide_slice Tryz.underlying39 (hval 0 39 v0 rfl rfl)
  obtain ⟨g0, hf0⟩ := h0
  obtain ⟨x0, e0, o0⟩ := stps_read hf0
  obtain ⟨x1, e1, o1⟩ := str_read (hval 1 9 v1 rfl rfl) h1
  refine calls_of_fn (scriptTexts_fn lives41_fn x0 o0 x1 o1) ⟨rfl, fun j d u hd hu => ?_⟩
  match j, hd, hu with
  | 0, hd, hu => simp at hd hu; subst hd hu; exact e0
  | 1, hd, hu => simp at hd hu; subst hd hu; exact e1
end Go.Proofs.YtbjhkhhbdlnfbaaGreatDoor.V

namespace Go.Proofs.YtbjhkhhbdlnfbaaGreatDoor
open Go.ChangeShapes Go.WideShapes Go.ChangeAt Go.RowKit
set_option maxRecDepth 100000 in
theorem scriptTexts_lifted (os : Os) (started : os.Started) (H : Type) (enc : TypeId × Value → H) :
    ReturnsInHanded {} Tryz.checked os 4 .any (fun w args => (Rows.scriptTextsSpec.pre enc Tryz.prog Tryz.f4 [] false w args ∧ laidMetH Tryz.prog doorLaidList w) ∧ sizedMet enc Tryz.prog Tryz.f4 (OpenSpec.ofChange Rows.scriptTextsSpec) false w args) (Rows.scriptTextsSpec.post enc Tryz.prog Tryz.f4 false true false false) :=
  law_lifted_door Tryz.func4 (by kernel_rfl) rfl rfl Tryz.underlying4 (by kernel_rfl) os started H enc
    (fun ds hds => by match ds, hds with | [_, _], _ => exact ⟨rfl, rfl, rfl⟩)
    (ChangeSpec.witness_shaped (enc := enc) (C := Tryz.checked) (os := os) (X := fun w _ => laidMetH Tryz.prog doorLaidList w) false (doorWorld os) (doorZeros Tryz.prog Tryz.f4) 8 rfl (World.shaped_of_RefB (by kernel_rfl) (by kernel_rfl)) (by kernel_rfl) (by kernel_rfl) (by kernel_rfl) (door_met os _))
    (V.scriptTexts_walk enc)
theorem scriptTexts_row : Rows.ScriptTextsSaid :=
  OpenClaim.holds_of_wide 4 Tryz.f4 rfl rfl rfl rfl rfl rfl rfl ⟨rfl, rfl, rfl, rfl, rfl⟩ rfl rfl rfl rfl rfl (by kernel_rfl) Tryz.func4 scriptTexts_facts
    (of_decide_eq_true (by kernel_rfl)) scriptTexts_wrap
    (fun os started H enc _ => scriptTexts_lifted os started H enc)
theorem scriptTexts_holds : Rows.ScriptTextsCardSaid :=
  Claim7.holds_tied_plain_at .later [] [.data, .pinned] true (true, "3759d59159face3823c1670c402a6cf11d9e2d516f16594467f5fb7f00a17c83") true
    scriptTexts_row (fun _ h => by cases h) scriptTexts_card1 (fun _ h => by cases h) scriptTexts_row_tie rfl ⟨rfl, rfl⟩ scriptTexts_card2 rfl
    (fun f fn hf hfn => by
      obtain rfl : f = 4 := Option.some.inj ((show Tryz.prog.funcNamed "linkboy/linkboylaw41.ScriptTexts" = some 4 by kernel_rfl).symm.trans hf) |>.symm
      obtain rfl : fn = Tryz.f4 := (Option.some.inj (Tryz.func4.symm.trans hfn)).symm
      exact ⟨scriptTexts_card3, fun j t ht => by
        rw [Tryz.params4] at ht
        match j, ht with
        | 0, ht =>
          have e : t = 39 := by simpa using ht.symm
          subst e
          exact (show Tryz.prog.wantsStandIn 39 = false by kernel_rfl)
        | 1, ht =>
          have e : t = 9 := by simpa using ht.symm
          subst e
          exact (show Tryz.prog.wantsStandIn 9 = false by kernel_rfl)
        | n + 2, ht => simp at ht⟩)
    scriptTexts_card4
#print axioms scriptTexts_holds
end Go.Proofs.YtbjhkhhbdlnfbaaGreatDoor
