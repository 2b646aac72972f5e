/-
  The document's sum of bytes by a key. Conditions: numbers are ones of their kinds.
-/
import Derived.Test.YtcbpdjikdohegaaYh
import Derived.Test.YtcbpdjikdohegaaVt
namespace Go.Proofs.Ytcbpdjikdohegaa.V
open Go.RowKit
attribute [local irreducible] Fn FnN OpVC Ob

theorem by_fn {x : Int} (hx : U64 x) (n : Nat) (hn : n ≤ 32) : Fn Try.prog 113 [u64D x, intD n] fun d => d = u64D (rotI x n) := by
  refine fnOf [] Try.func113 rfl (by kernel_rfl) (Nat.le_of_ble_eq_true rfl) ?_
  conv => whnf
  refine ⟨Nat × Int, fun g => ⟨[(5, intD g.1), (1, intD n), (0, u64D g.2)], [], 0, ([], 0)⟩, fun g => g.1 ≤ n ∧ g.2 = rotI x g.1, fun g => n - g.1, ⟨(0, x), [], [], ?_, Nat.zero_le _, (rotI_zero x hx).symm⟩, ?_⟩
  · repeat' (first | exact trivial | exact .inl (DLe.refl _) | exact .inl (DLe.nil _ _) | (refine .inr ⟨rfl, _, ?_, rfl⟩; rfl) | exact rfl | exact Nat.zero_le _ | constructor)
  · rintro ⟨k, y⟩ ⟨hk, hy⟩
    dsimp only at hk hy
    conv => whnf
    cases g1 : decide ((k : Int) < n) with
    | true =>
      have hlt : k < n := by have := of_decide_eq_true g1; omega
      have hs : IntKind.u64.wrap (IntKind.u64.wrap (y * 2) + IntKind.u64.wrap (y.tdiv 9223372036854775808)) = rotI x (k + 1) := by rw [hy]; exact (rot_step hx (by omega)).1
      conv => whnf
      refine ⟨by decide, ?_⟩
      conv => whnf
      rw [hs, wrap_next (show k < 33 by omega) (by omega)]
      refine ⟨(k + 1, rotI x (k + 1)), [], [], ?_, ⟨hlt, rfl⟩, by show n - (k + 1) < n - k; omega⟩
      repeat' (first | exact trivial | exact .inl (DLe.refl _) | exact .inl (DLe.nil _ _) | (refine .inr ⟨rfl, _, ?_, rfl⟩; rfl) | exact rfl | exact Nat.zero_le _ | constructor)
    | false =>
      have hin : k = n := by have := of_decide_eq_false g1; omega
      conv => whnf
      rw [hy, hin]

theorem rround_fn (s : S4) (hs : s.ok) : Fn Try.prog 95 [.agg (s4D s)] fun d => d = .agg (s4D (rnd s)) := by
  refine fnOf [] Try.func95 rfl (by kernel_rfl) (Nat.le_of_ble_eq_true rfl) ?_
  obtain ⟨ha, hb, hc, hd⟩ := hs
  conv => whnf
  refine ⟨by decide, ?_⟩
  conv => whnf
  refine ⟨by decide, ?_⟩
  conv => whnf
  refine ⟨by decide, ?_⟩
  conv => whnf
  refine ⟨by decide, ?_⟩
  conv => whnf
  refine CallVC.pure (by_fn hb 13 (by decide)) rfl ?_
  rintro _ rfl
  conv => whnf
  refine CallVC.pure (by_fn (w64_in _) 32 (by decide)) rfl ?_
  rintro _ rfl
  conv => whnf
  refine CallVC.pure (by_fn hd 16 (by decide)) rfl ?_
  rintro _ rfl
  conv => whnf
  refine CallVC.pure (by_fn (xorI_in _ _) 21 (by decide)) rfl ?_
  rintro _ rfl
  conv => whnf
  refine CallVC.pure (by_fn (xorI_in _ _) 17 (by decide)) rfl ?_
  rintro _ rfl
  conv => whnf
  refine CallVC.pure (by_fn (w64_in _) 32 (by decide)) rfl ?_
  rintro _ rfl
  conv => whnf
  rfl
end Go.Proofs.Ytcbpdjikdohegaa.V
