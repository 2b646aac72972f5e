/-
  The law CacheForgets by value, where lives is true. Conditions: numbers of their types.
-/
import Derived.Test.YtfepckbhnghpeaaK12
namespace Go.Proofs.Ytfepckbhnghpeaa.V
open Go.RowKit
attribute [local irreducible] Fn FnN OpVC ArC FnR ArL

theorem want_waits_le {c : Nat → Int} {now : Int} {T : List Pl} (hs : SortT T) (k : Int × Int) (b : List Nat) : waitsT (wantT c now T k b).2 ≤ waitsT T + 1 := by
  rw [want_waits hs]
  split <;> omega
theorem stand_new (cg mg : Nat) (c : Nat → Int) (now : Int) (h : COk (cdat0 cg mg c now)) : CStand (cdat0 cg mg c now) [] := ⟨h, .refl _, fun x hx => absurd hx List.not_mem_nil, List.Pairwise.nil⟩
end Go.Proofs.Ytfepckbhnghpeaa.V
