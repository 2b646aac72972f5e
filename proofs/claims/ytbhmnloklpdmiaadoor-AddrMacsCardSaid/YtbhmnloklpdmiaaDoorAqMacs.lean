/-
  The law AddrMacs: the text of any Ethernet address, and the one that any text is, are the document's. Conditions: the two tables of unicode/utf8 lie as the library's text lays them (the card ties them); none on the arguments.
-/
import Derived.Test.YtbhmnloklpdmiaaDoorAo
namespace Go.Proofs.YtbhmnloklpdmiaaDoor.V
open Go.ChangeShapes Go.WideShapes Go.ChangeAt Go.RowKit

set_option maxRecDepth 100000 in
theorem addrMacs_walk {H : Type} (enc : TypeId × Value → H) (W : World) (base : Nat) (args : Array Value) (ds : List (DataW H)) (p : List MemPlace)
    (hval : ∀ (j : Nat) t v, Tryd.f4.params[j]? = some t → args[j]? = some v → Value.okWide Tryd.prog W .any base t v)
    (hA : DataW.TrodAll enc Tryd.prog W 0 (fun _ => true) true Tryd.f4.params.toList args.toList ds p) :
    Calls Tryd.prog 4 args W fun e W' => e = .returned (.bool true) ∧ Below W.heap.size W W' := by
  rw [Tryd.params4] at hA hval
  obtain ⟨v0, r0, d0, s0, p0, q0, ha, rfl, rfl, h0, hA⟩ := trodAll_cons hA
  obtain ⟨v1, r1, d1, s1, p1, q1, rfl, rfl, rfl, h1, hA⟩ := trodAll_cons hA
  obtain ⟨rfl, rfl, rfl⟩ := trodAll_nil hA
  have hargs : args = #[v0, v1] := by apply Array.ext'; rw [ha]
  subst hargs
  obtain ⟨x0, e0, o0⟩ := mac_read (hval 0 33 v0 rfl rfl) h0
  obtain ⟨x1, e1, o1⟩ := str_read (hval 1 9 v1 rfl rfl) h1
  refine calls_of_fn (macs_fn x0 o0 x1 o1) ⟨rfl, fun j d u hd hu => ?_⟩
  match j, hd, hu with
  | 0, hd, hu => simp at hd hu; subst hd hu; exact e0
  | 1, hd, hu => simp at hd hu; subst hd hu; exact e1
end Go.Proofs.YtbhmnloklpdmiaaDoor.V

namespace Go.Proofs.YtbhmnloklpdmiaaDoor
open Go.ChangeShapes Go.WideShapes Go.ChangeAt Go.RowKit
set_option maxRecDepth 100000 in
theorem addrMacs_lifted (os : Os) (started : os.Started) (H : Type) (enc : TypeId × Value → H) :
    ReturnsInHanded {} Tryd.checked os 4 .any (fun w args => (Rows.addrMacsSpec.pre enc Tryd.prog Tryd.f4 [] false w args ∧ laidMetH Tryd.prog doorLaidList w) ∧ sizedMet enc Tryd.prog Tryd.f4 (OpenSpec.ofChange Rows.addrMacsSpec) false w args) (Rows.addrMacsSpec.post enc Tryd.prog Tryd.f4 false true false false) :=
  law_lifted_door Tryd.func4 (by kernel_rfl) rfl rfl Tryd.underlying4 (by kernel_rfl) os started H enc
    (fun ds hds => by match ds, hds with | [_, _], _ => exact ⟨rfl, rfl, rfl⟩)
    (ChangeSpec.witness_shaped (enc := enc) (C := Tryd.checked) (os := os) (X := fun w _ => laidMetH Tryd.prog doorLaidList w) false (doorWorld os) (doorZeros Tryd.prog Tryd.f4) 8 rfl (World.shaped_of_RefB (by kernel_rfl) (by kernel_rfl)) (by kernel_rfl) (by kernel_rfl) (by kernel_rfl) (door_met os _))
    (V.addrMacs_walk enc)
theorem addrMacs_row : Rows.AddrMacsSaid :=
  OpenClaim.holds_of_wide 4 Tryd.f4 rfl rfl rfl rfl rfl rfl rfl ⟨rfl, rfl, rfl, rfl, rfl⟩ rfl rfl rfl rfl rfl (by kernel_rfl) Tryd.func4 (by kernel_rfl)
    (of_decide_eq_true (by kernel_rfl)) (by unfold Func.isWrapper; first | (rw [if_pos (by decide +kernel)]; kernel_rfl) | (rw [if_neg (by decide +kernel)]; exact ⟨rfl, rfl⟩))
    (fun os started H enc _ => addrMacs_lifted os started H enc)
theorem addrMacs_holds : Rows.AddrMacsCardSaid :=
  Claim7.holds_tied_plain_at .later [] [.data, .pinned] true (true, "da2e946486b5401d6bdd8ef8a4a73f825e6007320d0197ea9e311d828fffdd77") false
    addrMacs_row (fun _ h => by cases h) (by kernel_rfl) (fun _ h => by cases h) addrMacs_row_tie rfl ⟨rfl, rfl⟩ (by kernel_rfl) rfl
    (fun f fn hf hfn => by
      obtain rfl : f = 4 := Option.some.inj ((show Tryd.prog.funcNamed "linkboy/linkboylaw03.AddrMacs" = some 4 by kernel_rfl).symm.trans hf) |>.symm
      obtain rfl : fn = Tryd.f4 := (Option.some.inj (Tryd.func4.symm.trans hfn)).symm
      exact ⟨by kernel_rfl, fun j t ht => by
        rw [Tryd.params4] at ht
        match j, ht with
        | 0, ht =>
          have e : t = 33 := by simpa using ht.symm
          subst e
          exact (show Tryd.prog.wantsStandIn 33 = false by kernel_rfl)
        | 1, ht =>
          have e : t = 9 := by simpa using ht.symm
          subst e
          exact (show Tryd.prog.wantsStandIn 9 = false by kernel_rfl)
        | n + 2, ht => simp at ht⟩)
    (by kernel_rfl)
#print axioms addrMacs_holds
end Go.Proofs.YtbhmnloklpdmiaaDoor
