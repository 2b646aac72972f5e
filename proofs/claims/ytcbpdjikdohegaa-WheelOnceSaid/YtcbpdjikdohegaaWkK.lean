/-
  An alarm is told at all: what the law's own example comes to. No condition.
-/
import Derived.Test.YtcbpdjikdohegaaWyK
namespace Go.Proofs.Ytcbpdjikdohegaa.V
open Go.RowKit
attribute [local irreducible] Fn FnN OpVC Ob RowFn

set_option maxHeartbeats 4000000 in
theorem lives_fn : Fn Try.prog 25 [] fun d => d = boolD true := by
  refine fnOf [] Try.func25 rfl (by kernel_rfl) (Nat.le_of_ble_eq_true rfl) ?_
  have hs : setW 0 [] ⟨1, 300⟩ = true := rfl
  have hi : WInv 0 (setRr 0 (fun _ => []) [] ⟨1, 300⟩) (setMm 0 [] ⟨1, 300⟩ 0) [⟨1, 300⟩] := (winv_new 0 (Int.le_refl _)).setu ⟨1, 300⟩ 0
  have hso : Sorted [(⟨1, 300⟩ : Al)] := List.pairwise_singleton _ _
  have hat : ∀ a, a ∈ [(⟨1, 300⟩ : Al)] → a.at_ ≤ 1099511620000 := fun a ha => by
    obtain rfl : a = ⟨1, 300⟩ := by simpa using ha
    decide
  obtain ⟨X, hX⟩ : ∃ X, X = (WS.mk 0 (setRr 0 (fun _ => []) [] ⟨1, 300⟩) [] [] (setMm 0 [] ⟨1, 300⟩ 0) [⟨1, 300⟩]).ticks (clampN 299).toNat := ⟨_, rfl⟩
  obtain ⟨x1, x2, x3, x4⟩ := ticks_spec (WS.mk 0 (setRr 0 (fun _ => []) [] ⟨1, 300⟩) [] [] (setMm 0 [] ⟨1, 300⟩ 0) [⟨1, 300⟩]) hi hso (clampN 299).toNat
  rw [← hX] at x1 x2 x3 x4
  replace x1 : X.now = 299 := x1
  replace x3 : X.L = [⟨1, 300⟩] := x3
  replace x4 : X.U = [] := x4
  obtain ⟨xn, xR, xT, xU, xM, xL⟩ := X
  dsimp only at x1 x2 x3 x4
  subst x1 x3 x4
  obtain ⟨Y, hY⟩ : ∃ Y, Y = (WS.mk 299 xR xT [] xM [⟨1, 300⟩]).ticks (clampN 1).toNat := ⟨_, rfl⟩
  obtain ⟨y1, y2, y3, y4⟩ := ticks_spec (WS.mk 299 xR xT [] xM [⟨1, 300⟩]) x2 hso (clampN 1).toNat
  rw [← hY] at y1 y2 y3 y4
  replace y3 : Y.L = [] := y3
  replace y4 : Y.U = [⟨1, 300⟩] := y4
  obtain ⟨yn, yR, yT, yU, yM, yL⟩ := Y
  dsimp only at y1 y2 y3 y4
  subst y3 y4
  have hlen : yM.length = 0 := y2.len
  conv => whnf
  refine goIn [] Try.func20 rfl (by kernel_rfl) (Nat.le_of_ble_eq_true rfl) ?_
  conv => whnf
  refine op_makeMap rfl ?_
  conv => whnf
  refine CallVC.cov (args1 := [.loc 0 0, .agg (alD ⟨1, 300⟩)]) [(0, 1), (1, 0)] [2, 3, 4, 5, 6, 7, 8, 9, 10, 11, 12, 13, 14, 15, 16, 17, 18, 19, 20, 21, 22, 23, 24, 25, 26, 27, 28, 29, 30, 31, 32, 33, 34, 35, 36, 37, 38, 39, 40, 41, 42, 43, 44, 45, 46, 47, 48, 49, 50, 51, 52] ⟨[(1, .loc 0 0)], WH 0 (fun _ => []) [] [] [] 0 (.grow Al 58 2 alD []), 53, ([], 0)⟩ ?_ ?_ (set_u _ 0 _ _ _ _ 0 _ _ ⟨1, 300⟩ rfl rfl (fun _ _ _ => rfl) ⟨by decide, by decide⟩ (by decide) (fun _ => by decide) ?_)
  · repeat' (first | exact trivial | exact .inl (DLe.refl _) | exact .inl (DLe.nil _ _) | (refine .inr ⟨rfl, _, ?_, rfl⟩; rfl) | exact rfl | exact Nat.zero_le _ | constructor)
  · repeat' (first | exact trivial | exact .inl (DLe.refl _) | exact .inl (DLe.nil _ _) | (refine .inr ⟨rfl, _, ?_, rfl⟩; rfl) | exact rfl | exact Nat.zero_le _ | constructor)
  conv => whnf
  refine CallVC.cov (args1 := [.loc 0 0, intD 299]) [] [] ⟨[(8, boolD false), (1, .loc 0 0)], WH 0 (setRr 0 (fun _ => []) [] ⟨1, 300⟩) [] [] (setMm 0 [] ⟨1, 300⟩ 0) (setCc 0 [] ⟨1, 300⟩ 0) (.grow Al 58 2 alD []), 53, ([], 0)⟩ ?_ ?_ (turn_vc _ 0 _ _ _ _ _ _ _ 299 [⟨1, 300⟩] rfl rfl (fun _ _ _ => rfl) hi hso (by decide) (by decide) hat fun X' hX' => ?_)
  · repeat' (first | exact trivial | exact .inl (DLe.refl _) | exact .inl (DLe.nil _ _) | (refine .inr ⟨rfl, _, ?_, rfl⟩; rfl) | exact rfl | exact Nat.zero_le _ | constructor)
  · repeat' (first | exact trivial | exact .inl (DLe.refl _) | exact .inl (DLe.nil _ _) | (refine .inr ⟨rfl, _, ?_, rfl⟩; rfl) | exact rfl | exact Nat.zero_le _ | constructor)
  obtain rfl : X' = _ := hX'.trans hX.symm
  conv => whnf
  refine CallVC.cov (args1 := [.loc 0 0, intD 1]) [] [] ⟨[(1, .loc 0 0)], WH 299 xR xT [] xM (setCc 0 [] ⟨1, 300⟩ 0) (.grow Al 58 2 alD []), 53, ([], 0)⟩ ?_ ?_ (turn_vc _ 299 _ _ _ _ _ _ _ 1 [⟨1, 300⟩] rfl rfl (fun _ _ _ => rfl) x2 hso (by decide) (by decide) hat fun Y' hY' => ?_)
  · repeat' (first | exact trivial | exact .inl (DLe.refl _) | exact .inl (DLe.nil _ _) | (refine .inr ⟨rfl, _, ?_, rfl⟩; rfl) | exact rfl | exact Nat.zero_le _ | constructor)
  · repeat' (first | exact trivial | exact .inl (DLe.refl _) | exact .inl (DLe.nil _ _) | (refine .inr ⟨rfl, _, ?_, rfl⟩; rfl) | exact rfl | exact Nat.zero_le _ | constructor)
  obtain rfl : Y' = _ := hY'.trans hY.symm
  conv => whnf
  refine ⟨rfl, ⟨by decide, by show (0 : Int) < 1; decide⟩, ?_⟩
  conv => whnf
  refine ⟨rfl, by show 0 < 1; decide, fun a ha => ?_⟩
  obtain rfl : a = ⟨1, 300⟩ := by injection ha with ha; exact ha.symm
  conv => whnf
  refine len_rd yn yR yT _ yM _ _ _ _ rfl rfl (fun _ _ _ => rfl) ?_
  conv => whnf
  rw [hlen]
  rfl
end Go.Proofs.Ytcbpdjikdohegaa.V
