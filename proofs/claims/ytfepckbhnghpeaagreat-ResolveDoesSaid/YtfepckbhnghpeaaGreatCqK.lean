/-
  The law CacheForgets by value, where lives is true. Conditions: numbers of their types.
-/
import Derived.Test.YtfepckbhnghpeaaGreatK12
namespace Go.Proofs.YtfepckbhnghpeaaGreat.V
open Go.RowKit
attribute [local irreducible] Fn FnN OpVC ArC FnR ArL

theorem want_waits_le {c : Nat → Int} {now : Int} {T : List Pl} (hs : SortT T) (k : Int × Int) (b : List Nat) : waitsT (wantT c now T k b).2 ≤ waitsT T + 1 := by
  rw [want_waits hs]
  split <;> omega
def clN (n lo hi : Int) : Int := match decide (n < lo) with
  | true => lo
  | false => match decide (hi < n) with
    | true => hi
    | false => n
theorem stand_new (cg mg : Nat) (c : Nat → Int) (now : Int) (h : COk (cdat0 cg mg c now)) : CStand (cdat0 cg mg c now) [] := ⟨h, .refl _, fun x hx => absurd hx List.not_mem_nil, List.Pairwise.nil⟩
end Go.Proofs.YtfepckbhnghpeaaGreat.V
