/-
  A wheel as a cluster: what is done with it, by the row of its alarms. Conditions: ticks not too great, not too many alarms.
-/
import Derived.Test.YtcbpdjikdohegaaGreatK11
import Derived.Test.YtcbpdjikdohegaaGreatYlK
namespace Go.Proofs.YtcbpdjikdohegaaGreat.V
open Go.RowKit
attribute [local irreducible] Fn FnN OpVC Ob RowFn ObS NewS

abbrev alN : LO := .grow Al 73 2 alD []
def whF (now : Int) (L : List Al) : Fam := fun H nx => ∃ R T U M c, H = WH now R T U M c alN ∧ 53 ≤ nx ∧ WInv now R M L ∧ Sorted L
abbrev whA (now : Int) (L : List Al) : SepA := sepOf (whF now L)

theorem wset_obs (now : Int) (L : List Al) (a : Al) (hn : now ≤ 1099511500000) (ha : a.at_ ≤ 9223372036854775807) (hL : L.length ≤ 100) :
    ObS Tryz.prog 48 (whA now L) [.agg (alD a)] fun d A' => d = boolD (setQ now L a) ∧ A' = whA now (setL now L a) := by
  refine obs_of_call ⟨_, Tryz.func48, rfl⟩ ?_
  rintro _ nx ⟨R, T, U, M, c, rfl, hnx, hi, hs⟩
  have hi2 := hi.setu a c
  rw [setq_eq hi]
  refine CallVC.cov (args1 := [.loc 0 0, .agg (alD a)]) [] [] ⟨enumD (.loc 0 0 :: [.agg (alD a)]) 0, WH now R T U M c alN, 53, ([0], 1)⟩ ?_ ?_ (set_u _ now R T U M c alN _ a rfl rfl (fun _ _ _ => rfl) ⟨hi.n0, by omega⟩ ha (fun k => Nat.le_trans (hi.rows_len k) (by omega)) ?_)
  · repeat' (first | exact trivial | exact .inl (DLe.refl _) | exact .inl (DLe.nil _ _) | (refine .inr ⟨rfl, _, ?_, rfl⟩; rfl) | exact rfl | exact Nat.zero_le _ | constructor)
  · repeat' (first | exact trivial | exact .inl (DLe.refl _) | exact .inl (DLe.nil _ _) | (refine .inr ⟨rfl, _, ?_, rfl⟩; rfl) | exact rfl | exact Nat.zero_le _ | constructor)
  refine ⟨[], [], boolD (setW now M a), WH now (setRr now R M a) T U (setMm now M a c) (setCc now M a c) alN, [], 53, ?_, rfl, whF now (setL now L a), ⟨_, _, _, _, _, rfl, Nat.le_refl _, hi2, setL_sorted hs⟩, rfl, rfl⟩
  repeat' (first | exact trivial | exact .inl (DLe.refl _) | exact .inl (DLe.nil _ _) | (refine .inr ⟨rfl, _, ?_, rfl⟩; rfl) | exact rfl | exact Nat.zero_le _ | constructor)
theorem wstop_obs (now : Int) (L : List Al) (n : Int) (hL : L.length ≤ 100) :
    ObS Tryz.prog 33 (whA now L) [intD n] fun d A' => d = boolD (L.any (isId n)) ∧ A' = whA now (outOf n L) := by
  refine obs_of_call ⟨_, Tryz.func33, rfl⟩ ?_
  rintro _ nx ⟨R, T, U, M, c, rfl, hnx, hi, hs⟩
  have hi2 := hi.stop n
  refine CallVC.cov (args1 := [.loc 0 0, intD n]) [] [] ⟨enumD (.loc 0 0 :: [intD n]) 0, WH now R T U M c alN, 53, ([0], 1)⟩ ?_ ?_ (stop_u _ now R T U M c alN _ n L rfl rfl (fun _ _ _ => rfl) hi (by omega) ?_)
  · repeat' (first | exact trivial | exact .inl (DLe.refl _) | exact .inl (DLe.nil _ _) | (refine .inr ⟨rfl, _, ?_, rfl⟩; rfl) | exact rfl | exact Nat.zero_le _ | constructor)
  · repeat' (first | exact trivial | exact .inl (DLe.refl _) | exact .inl (DLe.nil _ _) | (refine .inr ⟨rfl, _, ?_, rfl⟩; rfl) | exact rfl | exact Nat.zero_le _ | constructor)
  refine ⟨[], [], boolD (L.any (isId n)), WH now (fun j => outOf n (R j)) T U (mdel n M) c alN, [], 53, ?_, rfl, whF now (outOf n L), ⟨_, _, _, _, _, rfl, Nat.le_refl _, hi2, hs.sublist List.filter_sublist⟩, rfl, rfl⟩
  repeat' (first | exact trivial | exact .inl (DLe.refl _) | exact .inl (DLe.nil _ _) | (refine .inr ⟨rfl, _, ?_, rfl⟩; rfl) | exact rfl | exact Nat.zero_le _ | constructor)
theorem wturn_obs (now : Int) (L : List Al) (n : Int) (hn : now ≤ 1099511500000) (hL : L.length ≤ 100) (hat : ∀ a, a ∈ L → a.at_ ≤ 1099511620000) :
    ObS Tryz.prog 35 (whA now L) [intD n] fun d A' => d = rowsA (L.takeWhile (upTo (now + clampN n))) ∧ A' = whA (now + clampN n) (L.dropWhile (upTo (now + clampN n))) ∧ ∀ a, a ∈ L.dropWhile (upTo (now + clampN n)) → now + clampN n < a.at_ := by
  refine obs_of_call ⟨_, Tryz.func35, rfl⟩ ?_
  rintro _ nx ⟨R, T, U, M, c, rfl, hnx, hi, hs⟩
  have hc : 0 ≤ clampN n ∧ clampN n ≤ 4095 := by unfold clampN; omega
  obtain ⟨h1, h2, h3, h4⟩ := ticks_spec (WS.mk now R T [] M L) hi hs (clampN n).toNat
  have e : now + (((clampN n).toNat : Nat) : Int) = now + clampN n := by omega
  dsimp only at h1 h3 h4
  rw [e] at h1 h3 h4
  refine CallVC.cov (args1 := [.loc 0 0, intD n]) [] [] ⟨enumD (.loc 0 0 :: [intD n]) 0, WH now R T U M c alN, 53, ([0], 1)⟩ ?_ ?_ (turn_vc _ now R T U M c alN _ n L rfl rfl (fun _ _ _ => rfl) hi hs hL hn hat fun X hX => ?_)
  · repeat' (first | exact trivial | exact .inl (DLe.refl _) | exact .inl (DLe.nil _ _) | (refine .inr ⟨rfl, _, ?_, rfl⟩; rfl) | exact rfl | exact Nat.zero_le _ | constructor)
  · repeat' (first | exact trivial | exact .inl (DLe.refl _) | exact .inl (DLe.nil _ _) | (refine .inr ⟨rfl, _, ?_, rfl⟩; rfl) | exact rfl | exact Nat.zero_le _ | constructor)
  rw [← hX] at h1 h2 h3 h4
  obtain ⟨xn, xR, xT, xU, xM, xL⟩ := X
  dsimp only at h1 h2 h3 h4
  subst h1 h3 h4
  refine ⟨[(53, 3), (3, 54)], [3], .grow 53, WH (now + clampN n) xR xT [] xM c alN, [(53, .grow Al 73 2 alD (L.takeWhile (upTo (now + clampN n))))], 54, ?_, rfl, whF (now + clampN n) (L.dropWhile (upTo (now + clampN n))), ⟨_, _, _, _, _, rfl, by decide, h2, hs.drop _⟩, rfl, rfl, fun a ha => h2.due ha⟩
  repeat' (first | exact trivial | exact .inl (DLe.refl _) | exact .inl (DLe.nil _ _) | (refine .inr ⟨rfl, _, ?_, rfl⟩; rfl) | exact rfl | exact Nat.zero_le _ | constructor)
theorem wnow_fn (now : Int) (L : List Al) : FnN Tryz.prog 41 [.sp (whA now L)] fun d => d = intD now := by
  refine fnN_sp ⟨_, Tryz.func41, rfl⟩ ?_
  rintro _ nx ⟨R, T, U, M, c, rfl, hnx, hi, hs⟩
  exact now_rd now _
theorem wnew_new (n : Int) : NewS Tryz.prog 25 [intD n] fun A => A = whA (newN n) [] := by
  refine newOf [] Tryz.func25 rfl (by kernel_rfl) (by decide) (Nat.le_of_ble_eq_true rfl) ?_
  have hnm := newN_min n
  conv => whnf
  refine op_makeMap rfl ?_
  conv => whnf
  refine ⟨[(0, 1), (1, 0)], [2, 3, 4, 5, 6, 7, 8, 9, 10, 11, 12, 13, 14, 15, 16, 17, 18, 19, 20, 21, 22, 23, 24, 25, 26, 27, 28, 29, 30, 31, 32, 33, 34, 35, 36, 37, 38, 39, 40, 41, 42, 43, 44, 45, 46, 47, 48, 49, 50, 51, 52], WH (newN n) (fun _ => []) [] [] [] 0 alN, 53, ?_, by decide, whF (newN n) [], ⟨_, _, _, _, _, rfl, Nat.le_refl _, winv_new _ (newN_in n).1, .nil⟩, rfl⟩
  repeat' (first | exact trivial | exact .inl (DLe.refl _) | exact .inl (DLe.nil _ _) | (refine .inr ⟨rfl, _, ?_, rfl⟩; rfl) | exact rfl | exact Nat.zero_le _ | constructor)
  all_goals (rw [← hnm]; exact DLe.refl _)
end Go.Proofs.YtcbpdjikdohegaaGreat.V
