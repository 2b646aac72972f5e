/-
  Bytes as numbers, numbers as bytes, pieces of bytes: the program's, by value. Conditions: bytes, not too many.
  Numbers as bytes, rows of bytes as one, ones sums: the program's, by value. Conditions: bytes, not too many.
-/
import Derived.Test.YtjgihniedhmpeaaK3
import Derived.Test.YtjgihniedhmpeaaK1
namespace Go.Proofs.Ytjgihniedhmpeaa.V
open Go.RowKit
section
variable {P : Program}
theorem FnX {f : FuncId} {args : List D} {D0 : D} (h : Fn P f args fun d => DLe d D0) : Fn P f args fun d => d = D0 := by
  unfold Fn at *
  exact ⟨h.1, fun w B vs hB hr => (h.2 w B vs hB hr).mono fun e w' ⟨d, v, h1, h2, h3, h4⟩ => ⟨D0, v, rfl, h2, h3, h1 _ _ h4⟩⟩
end
theorem dleP {x y z : D} (h : DLe x y) : DLe (.tup [x, z]) (.tup [y, z]) := fun C v hv => by
  cases hv with
  | tup hs hh =>
    refine .tup hs fun j d u hd hu => ?_
    match j, hd with
    | 0, hd => injection hd with hd; subst hd; exact h _ _ (hh 0 x u rfl hu)
    | j + 1, hd => exact hh (j + 1) d u hd hu
attribute [local irreducible] Fn FnN FnR OpVC DLe

def octE (x : Nat) : List D := [u8D x]
abbrev octR (L : List Nat) : D := .rows Nat 1 octE L
theorem wrapN {n : Nat} (h : n ≤ 4000000000) : IntKind.i64.wrap ((n : Int) + 1) = ((n + 1 : Nat) : Int) := by rw [IntWalk.i64_in _ (by omega)]; omega
end Go.Proofs.Ytjgihniedhmpeaa.V
namespace Go.Proofs.Ytjgihniedhmpeaa.V
open Go.RowKit
attribute [local irreducible] Fn FnN FnR OpVC DLe

theorem join1_fn (a : List Nat) (ha : a.length ≤ 1000000) : Fn Try.prog 27 [.lit 1 [[octR a]]] fun d => d = octR a := by
  refine FnX (fnOf [] Try.func27 rfl (by kernel_rfl) (Nat.le_of_ble_eq_true rfl) ?_)
  conv => whnf
  refine ⟨Nat, fun k => ⟨[(8, intD k), (7, intD 1), (6, .lit 1 [[octR a]]), (3, .grow 0)], [(0, .grow Nat 5 1 octE (match k with | 0 => [] | _ + 1 => a))], 1, ([], 0)⟩, fun k => k ≤ 1, fun k => 1 - k, ⟨0, [], [0], ?_, Nat.zero_le _⟩, ?_⟩
  · repeat' (first | exact trivial | exact .inl (DLe.refl _) | exact .inl (DLe.nil _ _) | (refine .inr ⟨rfl, _, ?_, rfl⟩; rfl) | exact rfl | exact .inl rfl | exact .inr ⟨rfl, rfl, rfl, rfl⟩ | exact Nat.zero_le _ | constructor)
  intro k hk
  rcases (by have : k ≤ 1 := hk; omega : k = 0 ∨ k = 1) with rfl | rfl
  · conv => whnf
    refine ⟨rfl, ?_⟩
    conv => whnf
    refine ⟨Nat, octE, a, rfl, fun _ => rfl, by omega, by show a.length * 1 ≤ _; omega, rfl, ?_⟩
    conv => whnf
    refine ⟨1, [(0, 1)], [], ?_, by decide, by decide⟩
    repeat' (first | exact trivial | exact .inl (DLe.refl _) | exact .inl (DLe.nil _ _) | (refine .inr ⟨rfl, _, ?_, rfl⟩; rfl) | exact rfl | exact .inl rfl | exact .inr ⟨rfl, rfl, rfl, rfl⟩ | exact Nat.zero_le _ | constructor)
  · conv => whnf
    exact DLe.refl _
/-! ### Sums -/
end Go.Proofs.Ytjgihniedhmpeaa.V
