/-
  The law AddrNets: which addresses are in any net, and a host's there, as the document says. Conditions: the two tables of unicode/utf8 lie as the library's text lays them (the card ties them); none on the arguments.
-/
import Derived.Test.YtbhmnloklpdmiaaDoorAo
namespace Go.Proofs.YtbhmnloklpdmiaaDoor.V
open Go.ChangeShapes Go.WideShapes Go.ChangeAt Go.RowKit

set_option maxRecDepth 100000 in
theorem addrNets_walk {H : Type} (enc : TypeId × Value → H) (W : World) (base : Nat) (args : Array Value) (ds : List (DataW H)) (p : List MemPlace)
    (hval : ∀ (j : Nat) t v, Tryd.f6.params[j]? = some t → args[j]? = some v → Value.okWide Tryd.prog W .any base t v)
    (hA : DataW.TrodAll enc Tryd.prog W 0 (fun _ => true) true Tryd.f6.params.toList args.toList ds p) :
    Calls Tryd.prog 6 args W fun e W' => e = .returned (.bool true) ∧ Below W.heap.size W W' := by
  rw [Tryd.params6] at hA hval
  obtain ⟨v0, r0, d0, s0, p0, q0, ha, rfl, rfl, h0, hA⟩ := trodAll_cons hA
  obtain ⟨v1, r1, d1, s1, p1, q1, rfl, rfl, rfl, h1, hA⟩ := trodAll_cons hA
  obtain ⟨v2, r2, d2, s2, p2, q2, rfl, rfl, rfl, h2, hA⟩ := trodAll_cons hA
  obtain ⟨rfl, rfl, rfl⟩ := trodAll_nil hA
  have hargs : args = #[v0, v1, v2] := by apply Array.ext'; rw [ha]
  subst hargs
  obtain ⟨x0, e0, o0⟩ := u32_read (hval 0 22 v0 rfl rfl) h0
  obtain ⟨x1, e1, o1⟩ := u32_read (hval 1 22 v1 rfl rfl) h1
  obtain ⟨x2, e2, o2⟩ := int_read (hval 2 3 v2 rfl rfl) h2
  refine calls_of_fn (nets_fn x0 x1 x2 ⟨by omega, by omega⟩ ⟨by omega, by omega⟩ o2) ⟨rfl, fun j d u hd hu => ?_⟩
  match j, hd, hu with
  | 0, hd, hu => simp at hd hu; subst hd hu; exact e0
  | 1, hd, hu => simp at hd hu; subst hd hu; exact e1
  | 2, hd, hu => simp at hd hu; subst hd hu; exact e2
end Go.Proofs.YtbhmnloklpdmiaaDoor.V

namespace Go.Proofs.YtbhmnloklpdmiaaDoor
open Go.ChangeShapes Go.WideShapes Go.ChangeAt Go.RowKit
set_option maxRecDepth 100000 in
theorem addrNets_lifted (os : Os) (started : os.Started) (H : Type) (enc : TypeId × Value → H) :
    ReturnsInHanded {} Tryd.checked os 6 .any (fun w args => (Rows.addrNetsSpec.pre enc Tryd.prog Tryd.f6 [] false w args ∧ laidMetH Tryd.prog doorLaidList w) ∧ sizedMet enc Tryd.prog Tryd.f6 (OpenSpec.ofChange Rows.addrNetsSpec) false w args) (Rows.addrNetsSpec.post enc Tryd.prog Tryd.f6 false true false false) :=
  law_lifted_door Tryd.func6 (by kernel_rfl) rfl rfl Tryd.underlying4 (by kernel_rfl) os started H enc
    (fun ds hds => by match ds, hds with | [_, _, _], _ => exact ⟨rfl, rfl, rfl⟩)
    (ChangeSpec.witness_shaped (enc := enc) (C := Tryd.checked) (os := os) (X := fun w _ => laidMetH Tryd.prog doorLaidList w) false (doorWorld os) (doorZeros Tryd.prog Tryd.f6) 8 rfl (World.shaped_of_RefB (by kernel_rfl) (by kernel_rfl)) (by kernel_rfl) (by kernel_rfl) (by kernel_rfl) (door_met os _))
    (V.addrNets_walk enc)
theorem addrNets_row : Rows.AddrNetsSaid :=
  OpenClaim.holds_of_wide 6 Tryd.f6 rfl rfl rfl rfl rfl rfl rfl ⟨rfl, rfl, rfl, rfl, rfl⟩ rfl rfl rfl rfl rfl (by kernel_rfl) Tryd.func6 (by kernel_rfl)
    (of_decide_eq_true (by kernel_rfl)) (by unfold Func.isWrapper; first | (rw [if_pos (by decide +kernel)]; kernel_rfl) | (rw [if_neg (by decide +kernel)]; exact ⟨rfl, rfl⟩))
    (fun os started H enc _ => addrNets_lifted os started H enc)
theorem addrNets_holds : Rows.AddrNetsCardSaid :=
  Claim7.holds_tied_plain_at .later [] [.data, .pinned] true (true, "da2e946486b5401d6bdd8ef8a4a73f825e6007320d0197ea9e311d828fffdd77") false
    addrNets_row (fun _ h => by cases h) (by kernel_rfl) (fun _ h => by cases h) addrNets_row_tie rfl ⟨rfl, rfl⟩ (by kernel_rfl) rfl
    (fun f fn hf hfn => by
      obtain rfl : f = 6 := Option.some.inj ((show Tryd.prog.funcNamed "linkboy/linkboylaw03.AddrNets" = some 6 by kernel_rfl).symm.trans hf) |>.symm
      obtain rfl : fn = Tryd.f6 := (Option.some.inj (Tryd.func6.symm.trans hfn)).symm
      exact ⟨by kernel_rfl, fun j t ht => by
        rw [Tryd.params6] at ht
        match j, ht with
        | 0, ht =>
          have e : t = 22 := by simpa using ht.symm
          subst e
          exact (show Tryd.prog.wantsStandIn 22 = false by kernel_rfl)
        | 1, ht =>
          have e : t = 22 := by simpa using ht.symm
          subst e
          exact (show Tryd.prog.wantsStandIn 22 = false by kernel_rfl)
        | 2, ht =>
          have e : t = 3 := by simpa using ht.symm
          subst e
          exact (show Tryd.prog.wantsStandIn 3 = false by kernel_rfl)
        | n + 3, ht => simp at ht⟩)
    (by kernel_rfl)
#print axioms addrNets_holds
end Go.Proofs.YtbhmnloklpdmiaaDoor
