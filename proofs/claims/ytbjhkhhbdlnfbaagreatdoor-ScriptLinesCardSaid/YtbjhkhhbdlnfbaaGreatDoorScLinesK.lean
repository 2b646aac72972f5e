/-
  The law ScriptLines: the line of any step, and the step that any line is, are the document's, there and back. Conditions: the two tables of unicode/utf8 lie as the library's text lays them (the card ties them); none on the arguments.
-/
import Derived.Test.YtbjhkhhbdlnfbaaGreatDoorK9
import Derived.Test.YtbjhkhhbdlnfbaaGreatDoorQLfK
import Derived.Test.YtbjhkhhbdlnfbaaGreatDoorK6
namespace Go.Proofs.YtbjhkhhbdlnfbaaGreatDoor.V
open Go.ChangeShapes Go.WideShapes Go.ChangeAt Go.RowKit

set_option maxRecDepth 100000 in
theorem scriptLines_walk {H : Type} (enc : TypeId × Value → H) (W : World) (base : Nat) (args : Array Value) (ds : List (DataW H)) (p : List MemPlace)
    (hval : ∀ (j : Nat) t v, Tryz.f3.params[j]? = some t → args[j]? = some v → Value.okWide Tryz.prog W .any base t v)
    (hA : DataW.TrodAll enc Tryz.prog W 0 (fun _ => true) true Tryz.f3.params.toList args.toList ds p) :
    Calls Tryz.prog 3 args W fun e W' => e = .returned (.bool true) ∧ Below W.heap.size W W' := by
  rw [Tryz.params3] at hA hval
  obtain ⟨v0, r0, d0, s0, p0, q0, ha, rfl, rfl, h0, hA⟩ := trodAll_cons hA
  obtain ⟨v1, r1, d1, s1, p1, q1, rfl, rfl, rfl, h1, hA⟩ := trodAll_cons hA
  obtain ⟨rfl, rfl, rfl⟩ := trodAll_nil hA
  have hargs : args = #[v0, v1] := by apply Array.ext'; rw [ha]
  subst hargs
  obtain ⟨x0, e0, o0⟩ := stp_read (hval 0 27 v0 rfl rfl) h0
  obtain ⟨x1, e1, o1⟩ := str_read (hval 1 9 v1 rfl rfl) h1
  refine calls_of_fn (scriptLines_fn lives41_fn x0 o0 x1 o1) ⟨rfl, fun j d u hd hu => ?_⟩
  match j, hd, hu with
  | 0, hd, hu => simp at hd hu; subst hd hu; exact e0
  | 1, hd, hu => simp at hd hu; subst hd hu; exact e1
end Go.Proofs.YtbjhkhhbdlnfbaaGreatDoor.V

namespace Go.Proofs.YtbjhkhhbdlnfbaaGreatDoor
open Go.ChangeShapes Go.WideShapes Go.ChangeAt Go.RowKit
set_option maxRecDepth 100000 in
theorem scriptLines_lifted (os : Os) (started : os.Started) (H : Type) (enc : TypeId × Value → H) :
    ReturnsInHanded {} Tryz.checked os 3 .any (fun w args => (Rows.scriptLinesSpec.pre enc Tryz.prog Tryz.f3 [] false w args ∧ laidMetH Tryz.prog doorLaidList w) ∧ sizedMet enc Tryz.prog Tryz.f3 (OpenSpec.ofChange Rows.scriptLinesSpec) false w args) (Rows.scriptLinesSpec.post enc Tryz.prog Tryz.f3 false true false false) :=
  law_lifted_door Tryz.func3 (by kernel_rfl) rfl rfl Tryz.underlying4 (by kernel_rfl) os started H enc
    (fun ds hds => by match ds, hds with | [_, _], _ => exact ⟨rfl, rfl, rfl⟩)
    (ChangeSpec.witness_shaped (enc := enc) (C := Tryz.checked) (os := os) (X := fun w _ => laidMetH Tryz.prog doorLaidList w) false (doorWorld os) (doorZeros Tryz.prog Tryz.f3) 8 rfl (World.shaped_of_RefB (by kernel_rfl) (by kernel_rfl)) (by kernel_rfl) (by kernel_rfl) (by kernel_rfl) (door_met os _))
    (V.scriptLines_walk enc)
theorem scriptLines_row : Rows.ScriptLinesSaid :=
  OpenClaim.holds_of_wide 3 Tryz.f3 rfl rfl rfl rfl rfl rfl rfl ⟨rfl, rfl, rfl, rfl, rfl⟩ rfl rfl rfl rfl rfl (by kernel_rfl) Tryz.func3 scriptLines_facts
    (of_decide_eq_true (by kernel_rfl)) scriptLines_wrap
    (fun os started H enc _ => scriptLines_lifted os started H enc)
theorem scriptLines_holds : Rows.ScriptLinesCardSaid :=
  Claim7.holds_tied_plain_at .later [] [.data, .pinned] true (true, "3759d59159face3823c1670c402a6cf11d9e2d516f16594467f5fb7f00a17c83") true
    scriptLines_row (fun _ h => by cases h) scriptLines_card1 (fun _ h => by cases h) scriptLines_row_tie rfl ⟨rfl, rfl⟩ scriptLines_card2 rfl
    (fun f fn hf hfn => by
      obtain rfl : f = 3 := Option.some.inj ((show Tryz.prog.funcNamed "linkboy/linkboylaw41.ScriptLines" = some 3 by kernel_rfl).symm.trans hf) |>.symm
      obtain rfl : fn = Tryz.f3 := (Option.some.inj (Tryz.func3.symm.trans hfn)).symm
      exact ⟨scriptLines_card3, fun j t ht => by
        rw [Tryz.params3] at ht
        match j, ht with
        | 0, ht =>
          have e : t = 27 := by simpa using ht.symm
          subst e
          exact (show Tryz.prog.wantsStandIn 27 = false by kernel_rfl)
        | 1, ht =>
          have e : t = 9 := by simpa using ht.symm
          subst e
          exact (show Tryz.prog.wantsStandIn 9 = false by kernel_rfl)
        | n + 2, ht => simp at ht⟩)
    scriptLines_card4
#print axioms scriptLines_holds
end Go.Proofs.YtbjhkhhbdlnfbaaGreatDoor
