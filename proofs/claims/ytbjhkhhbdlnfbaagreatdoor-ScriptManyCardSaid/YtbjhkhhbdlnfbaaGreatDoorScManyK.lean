/-
  The law ScriptMany: a script of four hundred steps is written, read and played; one of more is told too big. Conditions: the two tables of unicode/utf8 lie as the library's text lays them (the card ties them); none on the arguments.
-/
import Derived.Test.YtbjhkhhbdlnfbaaGreatDoorK10
import Derived.Test.YtbjhkhhbdlnfbaaGreatDoorQMfK
import Derived.Test.YtbjhkhhbdlnfbaaGreatDoorK7
import Derived.Test.YtbjhkhhbdlnfbaaGreatDoorK15
namespace Go.Proofs.YtbjhkhhbdlnfbaaGreatDoor.V
open Go.ChangeShapes Go.WideShapes Go.ChangeAt Go.RowKit

section
variable {H : Type} {enc : TypeId × Value → H} {W : World}
set_option maxRecDepth 100000 in
theorem int_read {base : Nat} {v : Value} {d : DataW H} {ps : List MemPlace} (hval : Value.okWide Tryz.prog W .any base 3 v) (h : DataW.Trod enc Tryz.prog W 0 (fun _ => true) true 3 v d ps) :
    ∃ n : Int, Rep (baseCtx W fun b => b < W.heap.size) (intD n) v ∧ -9223372036854775808 ≤ n := by
  obtain ⟨n, rfl, _, _, wf⟩ := open_int Tryz.underlying3 hval h
  have := wf_i64 wf
  exact ⟨n, .v, this.1⟩
end
set_option maxRecDepth 100000 in
theorem scriptMany_walk {H : Type} (enc : TypeId × Value → H) (W : World) (base : Nat) (args : Array Value) (ds : List (DataW H)) (p : List MemPlace)
    (hval : ∀ (j : Nat) t v, Tryz.f5.params[j]? = some t → args[j]? = some v → Value.okWide Tryz.prog W .any base t v)
    (hA : DataW.TrodAll enc Tryz.prog W 0 (fun _ => true) true Tryz.f5.params.toList args.toList ds p) :
    Calls Tryz.prog 5 args W fun e W' => e = .returned (.bool true) ∧ Below W.heap.size W W' := by
  rw [Tryz.params5] at hA hval
  obtain ⟨v0, r0, d0, s0, p0, q0, ha, rfl, rfl, h0, hA⟩ := trodAll_cons hA
  obtain ⟨v1, r1, d1, s1, p1, q1, rfl, rfl, rfl, h1, hA⟩ := trodAll_cons hA
  obtain ⟨rfl, rfl, rfl⟩ := trodAll_nil hA
  have hargs : args = #[v0, v1] := by apply Array.ext'; rw [ha]
  subst hargs
  obtain ⟨x0, e0, o0⟩ := int_read (hval 0 3 v0 rfl rfl) h0
  obtain ⟨x1, e1, o1⟩ := int_read (hval 1 3 v1 rfl rfl) h1
  refine calls_of_fn (scriptMany_fn lives41_fn x0 x1) ⟨rfl, fun j d u hd hu => ?_⟩
  match j, hd, hu with
  | 0, hd, hu => simp at hd hu; subst hd hu; exact e0
  | 1, hd, hu => simp at hd hu; subst hd hu; exact e1
end Go.Proofs.YtbjhkhhbdlnfbaaGreatDoor.V

namespace Go.Proofs.YtbjhkhhbdlnfbaaGreatDoor
open Go.ChangeShapes Go.WideShapes Go.ChangeAt Go.RowKit
set_option maxRecDepth 100000 in
theorem scriptMany_lifted (os : Os) (started : os.Started) (H : Type) (enc : TypeId × Value → H) :
    ReturnsInHanded {} Tryz.checked os 5 .any (fun w args => (Rows.scriptManySpec.pre enc Tryz.prog Tryz.f5 [] false w args ∧ laidMetH Tryz.prog doorLaidList w) ∧ sizedMet enc Tryz.prog Tryz.f5 (OpenSpec.ofChange Rows.scriptManySpec) false w args) (Rows.scriptManySpec.post enc Tryz.prog Tryz.f5 false true false false) :=
  law_lifted_door Tryz.func5 (by kernel_rfl) rfl rfl Tryz.underlying4 (by kernel_rfl) os started H enc
    (fun ds hds => by match ds, hds with | [_, _], _ => exact ⟨rfl, rfl, rfl⟩)
    (ChangeSpec.witness_shaped (enc := enc) (C := Tryz.checked) (os := os) (X := fun w _ => laidMetH Tryz.prog doorLaidList w) false (doorWorld os) (doorZeros Tryz.prog Tryz.f5) 8 rfl (World.shaped_of_RefB (by kernel_rfl) (by kernel_rfl)) (by kernel_rfl) (by kernel_rfl) (by kernel_rfl) (door_met os _))
    (V.scriptMany_walk enc)
theorem scriptMany_row : Rows.ScriptManySaid :=
  OpenClaim.holds_of_wide 5 Tryz.f5 rfl rfl rfl rfl rfl rfl rfl ⟨rfl, rfl, rfl, rfl, rfl⟩ rfl rfl rfl rfl rfl (by kernel_rfl) Tryz.func5 scriptMany_facts
    (of_decide_eq_true (by kernel_rfl)) scriptMany_wrap
    (fun os started H enc _ => scriptMany_lifted os started H enc)
theorem scriptMany_holds : Rows.ScriptManyCardSaid :=
  Claim7.holds_tied_plain_at .later [] [.data, .pinned] true (true, "3759d59159face3823c1670c402a6cf11d9e2d516f16594467f5fb7f00a17c83") true
    scriptMany_row (fun _ h => by cases h) scriptMany_card1 (fun _ h => by cases h) scriptMany_row_tie rfl ⟨rfl, rfl⟩ scriptMany_card2 rfl
    (fun f fn hf hfn => by
      obtain rfl : f = 5 := Option.some.inj ((show Tryz.prog.funcNamed "linkboy/linkboylaw41.ScriptMany" = some 5 by kernel_rfl).symm.trans hf) |>.symm
      obtain rfl : fn = Tryz.f5 := (Option.some.inj (Tryz.func5.symm.trans hfn)).symm
      exact ⟨scriptMany_card3, fun j t ht => by
        rw [Tryz.params5] at ht
        match j, ht with
        | 0, ht =>
          have e : t = 3 := by simpa using ht.symm
          subst e
          exact (show Tryz.prog.wantsStandIn 3 = false by kernel_rfl)
        | 1, ht =>
          have e : t = 3 := by simpa using ht.symm
          subst e
          exact (show Tryz.prog.wantsStandIn 3 = false by kernel_rfl)
        | n + 2, ht => simp at ht⟩)
    scriptMany_card4
#print axioms scriptMany_holds
end Go.Proofs.YtbjhkhhbdlnfbaaGreatDoor
