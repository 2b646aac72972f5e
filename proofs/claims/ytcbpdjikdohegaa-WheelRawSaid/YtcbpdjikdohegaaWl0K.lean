/-
  An alarm is laid on the wheel, place by place. Conditions: ticks not too great, the row not too long.
-/
import Derived.Test.YtcbpdjikdohegaaWaK
namespace Go.Proofs.Ytcbpdjikdohegaa.V
open Go.RowKit
attribute [local irreducible] Fn FnN CallVC OpVC Ob

theorem lay_0 (F : List (Nat × D)) (now : Int) (R : Nat → List Al) (T : List Al) (M : List ME) (c : Nat) (X : Int) (L : List Al) (a : Al) {K : D → St → Prop} (hr : plr now a.at_ = 0) (hp : plp now a.at_ = 0)
    (hF : F.all (fun p => cutOk 6 3 p.2) = true) (hn : 0 ≤ now ∧ now ≤ 1099511627776) (ht : 0 ≤ a.at_ ∧ a.at_ ≤ 1099511627776) (hl : (R 0).length ≤ 1000)
    (hK : K (.tup []) ⟨F, WH now (upd R 0 (R 0 ++ [a])) T M c X L, 52, (upto 3 0, 3)⟩) : CallVC Try.prog false 60 [.loc 0 0, .agg (alD a)] ⟨F, WH now R T M c X L, 52, (upto 3 0, 3)⟩ K := by
  have hpl := fun X => place_rd now a.at_ X hn ht
  rw [hr, hp] at hpl
  refine toIn 3 [(2, [0, 1, 2, 3, 4, 5, 6, 7, 8, 9, 10, 11, 14, 15, 16, 12, 13, 17, 18])] Try.func60 rfl (by kernel_rfl) (Nat.le_of_ble_eq_true rfl) (by decide) rfl rfl hF ?_
  conv => whnf
  refine CallVC.look (hpl _) rfl ?_
  rintro _ rfl
  conv => whnf
  refine ⟨by decide, ?_⟩
  conv => whnf
  refine ⟨by decide, ?_⟩
  conv => whnf
  refine ⟨by decide, ?_⟩
  conv => whnf
  (refine ⟨Nat.le_of_ble_eq_true rfl, ?_⟩; conv => whnf)
  refine ⟨Al, alD, R 0 ++ [a], (by rw [List.map_append]; rfl), fun _ => rfl, by simp only [List.length_append, List.length_cons, List.length_nil]; omega, by simp only [List.length_append, List.length_cons, List.length_nil]; omega, rfl, ?_⟩
  conv => whnf
  refine ⟨by decide, ?_⟩
  conv => whnf
  refine ⟨[(3, 53)], [], .tup [], WH now (upd R 0 (R 0 ++ [a])) T M c X L, 52, ?_, hK⟩
  repeat' (first | exact trivial | exact .inl (DLe.refl _) | exact .inl (DLe.nil _ _) | (refine .inr ⟨rfl, _, ?_, rfl⟩; rfl) | exact rfl | exact Nat.zero_le _ | constructor)

theorem lay_1 (F : List (Nat × D)) (now : Int) (R : Nat → List Al) (T : List Al) (M : List ME) (c : Nat) (X : Int) (L : List Al) (a : Al) {K : D → St → Prop} (hr : plr now a.at_ = 0) (hp : plp now a.at_ = 1)
    (hF : F.all (fun p => cutOk 6 3 p.2) = true) (hn : 0 ≤ now ∧ now ≤ 1099511627776) (ht : 0 ≤ a.at_ ∧ a.at_ ≤ 1099511627776) (hl : (R 1).length ≤ 1000)
    (hK : K (.tup []) ⟨F, WH now (upd R 1 (R 1 ++ [a])) T M c X L, 52, (upto 3 0, 3)⟩) : CallVC Try.prog false 60 [.loc 0 0, .agg (alD a)] ⟨F, WH now R T M c X L, 52, (upto 3 0, 3)⟩ K := by
  have hpl := fun X => place_rd now a.at_ X hn ht
  rw [hr, hp] at hpl
  refine toIn 3 [(2, [0, 1, 2, 3, 4, 5, 6, 7, 8, 9, 10, 11, 14, 15, 16, 12, 13, 17, 18])] Try.func60 rfl (by kernel_rfl) (Nat.le_of_ble_eq_true rfl) (by decide) rfl rfl hF ?_
  conv => whnf
  refine CallVC.look (hpl _) rfl ?_
  rintro _ rfl
  conv => whnf
  refine ⟨by decide, ?_⟩
  conv => whnf
  refine ⟨by decide, ?_⟩
  conv => whnf
  refine ⟨by decide, ?_⟩
  conv => whnf
  (refine ⟨Nat.le_of_ble_eq_true rfl, ?_⟩; conv => whnf)
  refine ⟨Al, alD, R 1 ++ [a], (by rw [List.map_append]; rfl), fun _ => rfl, by simp only [List.length_append, List.length_cons, List.length_nil]; omega, by simp only [List.length_append, List.length_cons, List.length_nil]; omega, rfl, ?_⟩
  conv => whnf
  refine ⟨by decide, ?_⟩
  conv => whnf
  refine ⟨[(4, 53)], [], .tup [], WH now (upd R 1 (R 1 ++ [a])) T M c X L, 52, ?_, hK⟩
  repeat' (first | exact trivial | exact .inl (DLe.refl _) | exact .inl (DLe.nil _ _) | (refine .inr ⟨rfl, _, ?_, rfl⟩; rfl) | exact rfl | exact Nat.zero_le _ | constructor)

theorem lay_2 (F : List (Nat × D)) (now : Int) (R : Nat → List Al) (T : List Al) (M : List ME) (c : Nat) (X : Int) (L : List Al) (a : Al) {K : D → St → Prop} (hr : plr now a.at_ = 0) (hp : plp now a.at_ = 2)
    (hF : F.all (fun p => cutOk 6 3 p.2) = true) (hn : 0 ≤ now ∧ now ≤ 1099511627776) (ht : 0 ≤ a.at_ ∧ a.at_ ≤ 1099511627776) (hl : (R 2).length ≤ 1000)
    (hK : K (.tup []) ⟨F, WH now (upd R 2 (R 2 ++ [a])) T M c X L, 52, (upto 3 0, 3)⟩) : CallVC Try.prog false 60 [.loc 0 0, .agg (alD a)] ⟨F, WH now R T M c X L, 52, (upto 3 0, 3)⟩ K := by
  have hpl := fun X => place_rd now a.at_ X hn ht
  rw [hr, hp] at hpl
  refine toIn 3 [(2, [0, 1, 2, 3, 4, 5, 6, 7, 8, 9, 10, 11, 14, 15, 16, 12, 13, 17, 18])] Try.func60 rfl (by kernel_rfl) (Nat.le_of_ble_eq_true rfl) (by decide) rfl rfl hF ?_
  conv => whnf
  refine CallVC.look (hpl _) rfl ?_
  rintro _ rfl
  conv => whnf
  refine ⟨by decide, ?_⟩
  conv => whnf
  refine ⟨by decide, ?_⟩
  conv => whnf
  refine ⟨by decide, ?_⟩
  conv => whnf
  (refine ⟨Nat.le_of_ble_eq_true rfl, ?_⟩; conv => whnf)
  refine ⟨Al, alD, R 2 ++ [a], (by rw [List.map_append]; rfl), fun _ => rfl, by simp only [List.length_append, List.length_cons, List.length_nil]; omega, by simp only [List.length_append, List.length_cons, List.length_nil]; omega, rfl, ?_⟩
  conv => whnf
  refine ⟨by decide, ?_⟩
  conv => whnf
  refine ⟨[(5, 53)], [], .tup [], WH now (upd R 2 (R 2 ++ [a])) T M c X L, 52, ?_, hK⟩
  repeat' (first | exact trivial | exact .inl (DLe.refl _) | exact .inl (DLe.nil _ _) | (refine .inr ⟨rfl, _, ?_, rfl⟩; rfl) | exact rfl | exact Nat.zero_le _ | constructor)

theorem lay_3 (F : List (Nat × D)) (now : Int) (R : Nat → List Al) (T : List Al) (M : List ME) (c : Nat) (X : Int) (L : List Al) (a : Al) {K : D → St → Prop} (hr : plr now a.at_ = 0) (hp : plp now a.at_ = 3)
    (hF : F.all (fun p => cutOk 6 3 p.2) = true) (hn : 0 ≤ now ∧ now ≤ 1099511627776) (ht : 0 ≤ a.at_ ∧ a.at_ ≤ 1099511627776) (hl : (R 3).length ≤ 1000)
    (hK : K (.tup []) ⟨F, WH now (upd R 3 (R 3 ++ [a])) T M c X L, 52, (upto 3 0, 3)⟩) : CallVC Try.prog false 60 [.loc 0 0, .agg (alD a)] ⟨F, WH now R T M c X L, 52, (upto 3 0, 3)⟩ K := by
  have hpl := fun X => place_rd now a.at_ X hn ht
  rw [hr, hp] at hpl
  refine toIn 3 [(2, [0, 1, 2, 3, 4, 5, 6, 7, 8, 9, 10, 11, 14, 15, 16, 12, 13, 17, 18])] Try.func60 rfl (by kernel_rfl) (Nat.le_of_ble_eq_true rfl) (by decide) rfl rfl hF ?_
  conv => whnf
  refine CallVC.look (hpl _) rfl ?_
  rintro _ rfl
  conv => whnf
  refine ⟨by decide, ?_⟩
  conv => whnf
  refine ⟨by decide, ?_⟩
  conv => whnf
  refine ⟨by decide, ?_⟩
  conv => whnf
  (refine ⟨Nat.le_of_ble_eq_true rfl, ?_⟩; conv => whnf)
  refine ⟨Al, alD, R 3 ++ [a], (by rw [List.map_append]; rfl), fun _ => rfl, by simp only [List.length_append, List.length_cons, List.length_nil]; omega, by simp only [List.length_append, List.length_cons, List.length_nil]; omega, rfl, ?_⟩
  conv => whnf
  refine ⟨by decide, ?_⟩
  conv => whnf
  refine ⟨[(6, 53)], [], .tup [], WH now (upd R 3 (R 3 ++ [a])) T M c X L, 52, ?_, hK⟩
  repeat' (first | exact trivial | exact .inl (DLe.refl _) | exact .inl (DLe.nil _ _) | (refine .inr ⟨rfl, _, ?_, rfl⟩; rfl) | exact rfl | exact Nat.zero_le _ | constructor)

theorem lay_4 (F : List (Nat × D)) (now : Int) (R : Nat → List Al) (T : List Al) (M : List ME) (c : Nat) (X : Int) (L : List Al) (a : Al) {K : D → St → Prop} (hr : plr now a.at_ = 0) (hp : plp now a.at_ = 4)
    (hF : F.all (fun p => cutOk 6 3 p.2) = true) (hn : 0 ≤ now ∧ now ≤ 1099511627776) (ht : 0 ≤ a.at_ ∧ a.at_ ≤ 1099511627776) (hl : (R 4).length ≤ 1000)
    (hK : K (.tup []) ⟨F, WH now (upd R 4 (R 4 ++ [a])) T M c X L, 52, (upto 3 0, 3)⟩) : CallVC Try.prog false 60 [.loc 0 0, .agg (alD a)] ⟨F, WH now R T M c X L, 52, (upto 3 0, 3)⟩ K := by
  have hpl := fun X => place_rd now a.at_ X hn ht
  rw [hr, hp] at hpl
  refine toIn 3 [(2, [0, 1, 2, 3, 4, 5, 6, 7, 8, 9, 10, 11, 14, 15, 16, 12, 13, 17, 18])] Try.func60 rfl (by kernel_rfl) (Nat.le_of_ble_eq_true rfl) (by decide) rfl rfl hF ?_
  conv => whnf
  refine CallVC.look (hpl _) rfl ?_
  rintro _ rfl
  conv => whnf
  refine ⟨by decide, ?_⟩
  conv => whnf
  refine ⟨by decide, ?_⟩
  conv => whnf
  refine ⟨by decide, ?_⟩
  conv => whnf
  (refine ⟨Nat.le_of_ble_eq_true rfl, ?_⟩; conv => whnf)
  refine ⟨Al, alD, R 4 ++ [a], (by rw [List.map_append]; rfl), fun _ => rfl, by simp only [List.length_append, List.length_cons, List.length_nil]; omega, by simp only [List.length_append, List.length_cons, List.length_nil]; omega, rfl, ?_⟩
  conv => whnf
  refine ⟨by decide, ?_⟩
  conv => whnf
  refine ⟨[(7, 53)], [], .tup [], WH now (upd R 4 (R 4 ++ [a])) T M c X L, 52, ?_, hK⟩
  repeat' (first | exact trivial | exact .inl (DLe.refl _) | exact .inl (DLe.nil _ _) | (refine .inr ⟨rfl, _, ?_, rfl⟩; rfl) | exact rfl | exact Nat.zero_le _ | constructor)

theorem lay_5 (F : List (Nat × D)) (now : Int) (R : Nat → List Al) (T : List Al) (M : List ME) (c : Nat) (X : Int) (L : List Al) (a : Al) {K : D → St → Prop} (hr : plr now a.at_ = 0) (hp : plp now a.at_ = 5)
    (hF : F.all (fun p => cutOk 6 3 p.2) = true) (hn : 0 ≤ now ∧ now ≤ 1099511627776) (ht : 0 ≤ a.at_ ∧ a.at_ ≤ 1099511627776) (hl : (R 5).length ≤ 1000)
    (hK : K (.tup []) ⟨F, WH now (upd R 5 (R 5 ++ [a])) T M c X L, 52, (upto 3 0, 3)⟩) : CallVC Try.prog false 60 [.loc 0 0, .agg (alD a)] ⟨F, WH now R T M c X L, 52, (upto 3 0, 3)⟩ K := by
  have hpl := fun X => place_rd now a.at_ X hn ht
  rw [hr, hp] at hpl
  refine toIn 3 [(2, [0, 1, 2, 3, 4, 5, 6, 7, 8, 9, 10, 11, 14, 15, 16, 12, 13, 17, 18])] Try.func60 rfl (by kernel_rfl) (Nat.le_of_ble_eq_true rfl) (by decide) rfl rfl hF ?_
  conv => whnf
  refine CallVC.look (hpl _) rfl ?_
  rintro _ rfl
  conv => whnf
  refine ⟨by decide, ?_⟩
  conv => whnf
  refine ⟨by decide, ?_⟩
  conv => whnf
  refine ⟨by decide, ?_⟩
  conv => whnf
  (refine ⟨Nat.le_of_ble_eq_true rfl, ?_⟩; conv => whnf)
  refine ⟨Al, alD, R 5 ++ [a], (by rw [List.map_append]; rfl), fun _ => rfl, by simp only [List.length_append, List.length_cons, List.length_nil]; omega, by simp only [List.length_append, List.length_cons, List.length_nil]; omega, rfl, ?_⟩
  conv => whnf
  refine ⟨by decide, ?_⟩
  conv => whnf
  refine ⟨[(8, 53)], [], .tup [], WH now (upd R 5 (R 5 ++ [a])) T M c X L, 52, ?_, hK⟩
  repeat' (first | exact trivial | exact .inl (DLe.refl _) | exact .inl (DLe.nil _ _) | (refine .inr ⟨rfl, _, ?_, rfl⟩; rfl) | exact rfl | exact Nat.zero_le _ | constructor)

theorem lay_6 (F : List (Nat × D)) (now : Int) (R : Nat → List Al) (T : List Al) (M : List ME) (c : Nat) (X : Int) (L : List Al) (a : Al) {K : D → St → Prop} (hr : plr now a.at_ = 0) (hp : plp now a.at_ = 6)
    (hF : F.all (fun p => cutOk 6 3 p.2) = true) (hn : 0 ≤ now ∧ now ≤ 1099511627776) (ht : 0 ≤ a.at_ ∧ a.at_ ≤ 1099511627776) (hl : (R 6).length ≤ 1000)
    (hK : K (.tup []) ⟨F, WH now (upd R 6 (R 6 ++ [a])) T M c X L, 52, (upto 3 0, 3)⟩) : CallVC Try.prog false 60 [.loc 0 0, .agg (alD a)] ⟨F, WH now R T M c X L, 52, (upto 3 0, 3)⟩ K := by
  have hpl := fun X => place_rd now a.at_ X hn ht
  rw [hr, hp] at hpl
  refine toIn 3 [(2, [0, 1, 2, 3, 4, 5, 6, 7, 8, 9, 10, 11, 14, 15, 16, 12, 13, 17, 18])] Try.func60 rfl (by kernel_rfl) (Nat.le_of_ble_eq_true rfl) (by decide) rfl rfl hF ?_
  conv => whnf
  refine CallVC.look (hpl _) rfl ?_
  rintro _ rfl
  conv => whnf
  refine ⟨by decide, ?_⟩
  conv => whnf
  refine ⟨by decide, ?_⟩
  conv => whnf
  refine ⟨by decide, ?_⟩
  conv => whnf
  (refine ⟨Nat.le_of_ble_eq_true rfl, ?_⟩; conv => whnf)
  refine ⟨Al, alD, R 6 ++ [a], (by rw [List.map_append]; rfl), fun _ => rfl, by simp only [List.length_append, List.length_cons, List.length_nil]; omega, by simp only [List.length_append, List.length_cons, List.length_nil]; omega, rfl, ?_⟩
  conv => whnf
  refine ⟨by decide, ?_⟩
  conv => whnf
  refine ⟨[(9, 53)], [], .tup [], WH now (upd R 6 (R 6 ++ [a])) T M c X L, 52, ?_, hK⟩
  repeat' (first | exact trivial | exact .inl (DLe.refl _) | exact .inl (DLe.nil _ _) | (refine .inr ⟨rfl, _, ?_, rfl⟩; rfl) | exact rfl | exact Nat.zero_le _ | constructor)

theorem lay_7 (F : List (Nat × D)) (now : Int) (R : Nat → List Al) (T : List Al) (M : List ME) (c : Nat) (X : Int) (L : List Al) (a : Al) {K : D → St → Prop} (hr : plr now a.at_ = 0) (hp : plp now a.at_ = 7)
    (hF : F.all (fun p => cutOk 6 3 p.2) = true) (hn : 0 ≤ now ∧ now ≤ 1099511627776) (ht : 0 ≤ a.at_ ∧ a.at_ ≤ 1099511627776) (hl : (R 7).length ≤ 1000)
    (hK : K (.tup []) ⟨F, WH now (upd R 7 (R 7 ++ [a])) T M c X L, 52, (upto 3 0, 3)⟩) : CallVC Try.prog false 60 [.loc 0 0, .agg (alD a)] ⟨F, WH now R T M c X L, 52, (upto 3 0, 3)⟩ K := by
  have hpl := fun X => place_rd now a.at_ X hn ht
  rw [hr, hp] at hpl
  refine toIn 3 [(2, [0, 1, 2, 3, 4, 5, 6, 7, 8, 9, 10, 11, 14, 15, 16, 12, 13, 17, 18])] Try.func60 rfl (by kernel_rfl) (Nat.le_of_ble_eq_true rfl) (by decide) rfl rfl hF ?_
  conv => whnf
  refine CallVC.look (hpl _) rfl ?_
  rintro _ rfl
  conv => whnf
  refine ⟨by decide, ?_⟩
  conv => whnf
  refine ⟨by decide, ?_⟩
  conv => whnf
  refine ⟨by decide, ?_⟩
  conv => whnf
  (refine ⟨Nat.le_of_ble_eq_true rfl, ?_⟩; conv => whnf)
  refine ⟨Al, alD, R 7 ++ [a], (by rw [List.map_append]; rfl), fun _ => rfl, by simp only [List.length_append, List.length_cons, List.length_nil]; omega, by simp only [List.length_append, List.length_cons, List.length_nil]; omega, rfl, ?_⟩
  conv => whnf
  refine ⟨by decide, ?_⟩
  conv => whnf
  refine ⟨[(10, 53)], [], .tup [], WH now (upd R 7 (R 7 ++ [a])) T M c X L, 52, ?_, hK⟩
  repeat' (first | exact trivial | exact .inl (DLe.refl _) | exact .inl (DLe.nil _ _) | (refine .inr ⟨rfl, _, ?_, rfl⟩; rfl) | exact rfl | exact Nat.zero_le _ | constructor)

theorem lay_8 (F : List (Nat × D)) (now : Int) (R : Nat → List Al) (T : List Al) (M : List ME) (c : Nat) (X : Int) (L : List Al) (a : Al) {K : D → St → Prop} (hr : plr now a.at_ = 0) (hp : plp now a.at_ = 8)
    (hF : F.all (fun p => cutOk 6 3 p.2) = true) (hn : 0 ≤ now ∧ now ≤ 1099511627776) (ht : 0 ≤ a.at_ ∧ a.at_ ≤ 1099511627776) (hl : (R 8).length ≤ 1000)
    (hK : K (.tup []) ⟨F, WH now (upd R 8 (R 8 ++ [a])) T M c X L, 52, (upto 3 0, 3)⟩) : CallVC Try.prog false 60 [.loc 0 0, .agg (alD a)] ⟨F, WH now R T M c X L, 52, (upto 3 0, 3)⟩ K := by
  have hpl := fun X => place_rd now a.at_ X hn ht
  rw [hr, hp] at hpl
  refine toIn 3 [(2, [0, 1, 2, 3, 4, 5, 6, 7, 8, 9, 10, 11, 14, 15, 16, 12, 13, 17, 18])] Try.func60 rfl (by kernel_rfl) (Nat.le_of_ble_eq_true rfl) (by decide) rfl rfl hF ?_
  conv => whnf
  refine CallVC.look (hpl _) rfl ?_
  rintro _ rfl
  conv => whnf
  refine ⟨by decide, ?_⟩
  conv => whnf
  refine ⟨by decide, ?_⟩
  conv => whnf
  refine ⟨by decide, ?_⟩
  conv => whnf
  (refine ⟨Nat.le_of_ble_eq_true rfl, ?_⟩; conv => whnf)
  refine ⟨Al, alD, R 8 ++ [a], (by rw [List.map_append]; rfl), fun _ => rfl, by simp only [List.length_append, List.length_cons, List.length_nil]; omega, by simp only [List.length_append, List.length_cons, List.length_nil]; omega, rfl, ?_⟩
  conv => whnf
  refine ⟨by decide, ?_⟩
  conv => whnf
  refine ⟨[(11, 53)], [], .tup [], WH now (upd R 8 (R 8 ++ [a])) T M c X L, 52, ?_, hK⟩
  repeat' (first | exact trivial | exact .inl (DLe.refl _) | exact .inl (DLe.nil _ _) | (refine .inr ⟨rfl, _, ?_, rfl⟩; rfl) | exact rfl | exact Nat.zero_le _ | constructor)

theorem lay_9 (F : List (Nat × D)) (now : Int) (R : Nat → List Al) (T : List Al) (M : List ME) (c : Nat) (X : Int) (L : List Al) (a : Al) {K : D → St → Prop} (hr : plr now a.at_ = 0) (hp : plp now a.at_ = 9)
    (hF : F.all (fun p => cutOk 6 3 p.2) = true) (hn : 0 ≤ now ∧ now ≤ 1099511627776) (ht : 0 ≤ a.at_ ∧ a.at_ ≤ 1099511627776) (hl : (R 9).length ≤ 1000)
    (hK : K (.tup []) ⟨F, WH now (upd R 9 (R 9 ++ [a])) T M c X L, 52, (upto 3 0, 3)⟩) : CallVC Try.prog false 60 [.loc 0 0, .agg (alD a)] ⟨F, WH now R T M c X L, 52, (upto 3 0, 3)⟩ K := by
  have hpl := fun X => place_rd now a.at_ X hn ht
  rw [hr, hp] at hpl
  refine toIn 3 [(2, [0, 1, 2, 3, 4, 5, 6, 7, 8, 9, 10, 11, 14, 15, 16, 12, 13, 17, 18])] Try.func60 rfl (by kernel_rfl) (Nat.le_of_ble_eq_true rfl) (by decide) rfl rfl hF ?_
  conv => whnf
  refine CallVC.look (hpl _) rfl ?_
  rintro _ rfl
  conv => whnf
  refine ⟨by decide, ?_⟩
  conv => whnf
  refine ⟨by decide, ?_⟩
  conv => whnf
  refine ⟨by decide, ?_⟩
  conv => whnf
  (refine ⟨Nat.le_of_ble_eq_true rfl, ?_⟩; conv => whnf)
  refine ⟨Al, alD, R 9 ++ [a], (by rw [List.map_append]; rfl), fun _ => rfl, by simp only [List.length_append, List.length_cons, List.length_nil]; omega, by simp only [List.length_append, List.length_cons, List.length_nil]; omega, rfl, ?_⟩
  conv => whnf
  refine ⟨by decide, ?_⟩
  conv => whnf
  refine ⟨[(12, 53)], [], .tup [], WH now (upd R 9 (R 9 ++ [a])) T M c X L, 52, ?_, hK⟩
  repeat' (first | exact trivial | exact .inl (DLe.refl _) | exact .inl (DLe.nil _ _) | (refine .inr ⟨rfl, _, ?_, rfl⟩; rfl) | exact rfl | exact Nat.zero_le _ | constructor)

theorem lay_10 (F : List (Nat × D)) (now : Int) (R : Nat → List Al) (T : List Al) (M : List ME) (c : Nat) (X : Int) (L : List Al) (a : Al) {K : D → St → Prop} (hr : plr now a.at_ = 0) (hp : plp now a.at_ = 10)
    (hF : F.all (fun p => cutOk 6 3 p.2) = true) (hn : 0 ≤ now ∧ now ≤ 1099511627776) (ht : 0 ≤ a.at_ ∧ a.at_ ≤ 1099511627776) (hl : (R 10).length ≤ 1000)
    (hK : K (.tup []) ⟨F, WH now (upd R 10 (R 10 ++ [a])) T M c X L, 52, (upto 3 0, 3)⟩) : CallVC Try.prog false 60 [.loc 0 0, .agg (alD a)] ⟨F, WH now R T M c X L, 52, (upto 3 0, 3)⟩ K := by
  have hpl := fun X => place_rd now a.at_ X hn ht
  rw [hr, hp] at hpl
  refine toIn 3 [(2, [0, 1, 2, 3, 4, 5, 6, 7, 8, 9, 10, 11, 14, 15, 16, 12, 13, 17, 18])] Try.func60 rfl (by kernel_rfl) (Nat.le_of_ble_eq_true rfl) (by decide) rfl rfl hF ?_
  conv => whnf
  refine CallVC.look (hpl _) rfl ?_
  rintro _ rfl
  conv => whnf
  refine ⟨by decide, ?_⟩
  conv => whnf
  refine ⟨by decide, ?_⟩
  conv => whnf
  refine ⟨by decide, ?_⟩
  conv => whnf
  (refine ⟨Nat.le_of_ble_eq_true rfl, ?_⟩; conv => whnf)
  refine ⟨Al, alD, R 10 ++ [a], (by rw [List.map_append]; rfl), fun _ => rfl, by simp only [List.length_append, List.length_cons, List.length_nil]; omega, by simp only [List.length_append, List.length_cons, List.length_nil]; omega, rfl, ?_⟩
  conv => whnf
  refine ⟨by decide, ?_⟩
  conv => whnf
  refine ⟨[(13, 53)], [], .tup [], WH now (upd R 10 (R 10 ++ [a])) T M c X L, 52, ?_, hK⟩
  repeat' (first | exact trivial | exact .inl (DLe.refl _) | exact .inl (DLe.nil _ _) | (refine .inr ⟨rfl, _, ?_, rfl⟩; rfl) | exact rfl | exact Nat.zero_le _ | constructor)

theorem lay_11 (F : List (Nat × D)) (now : Int) (R : Nat → List Al) (T : List Al) (M : List ME) (c : Nat) (X : Int) (L : List Al) (a : Al) {K : D → St → Prop} (hr : plr now a.at_ = 0) (hp : plp now a.at_ = 11)
    (hF : F.all (fun p => cutOk 6 3 p.2) = true) (hn : 0 ≤ now ∧ now ≤ 1099511627776) (ht : 0 ≤ a.at_ ∧ a.at_ ≤ 1099511627776) (hl : (R 11).length ≤ 1000)
    (hK : K (.tup []) ⟨F, WH now (upd R 11 (R 11 ++ [a])) T M c X L, 52, (upto 3 0, 3)⟩) : CallVC Try.prog false 60 [.loc 0 0, .agg (alD a)] ⟨F, WH now R T M c X L, 52, (upto 3 0, 3)⟩ K := by
  have hpl := fun X => place_rd now a.at_ X hn ht
  rw [hr, hp] at hpl
  refine toIn 3 [(2, [0, 1, 2, 3, 4, 5, 6, 7, 8, 9, 10, 11, 14, 15, 16, 12, 13, 17, 18])] Try.func60 rfl (by kernel_rfl) (Nat.le_of_ble_eq_true rfl) (by decide) rfl rfl hF ?_
  conv => whnf
  refine CallVC.look (hpl _) rfl ?_
  rintro _ rfl
  conv => whnf
  refine ⟨by decide, ?_⟩
  conv => whnf
  refine ⟨by decide, ?_⟩
  conv => whnf
  refine ⟨by decide, ?_⟩
  conv => whnf
  (refine ⟨Nat.le_of_ble_eq_true rfl, ?_⟩; conv => whnf)
  refine ⟨Al, alD, R 11 ++ [a], (by rw [List.map_append]; rfl), fun _ => rfl, by simp only [List.length_append, List.length_cons, List.length_nil]; omega, by simp only [List.length_append, List.length_cons, List.length_nil]; omega, rfl, ?_⟩
  conv => whnf
  refine ⟨by decide, ?_⟩
  conv => whnf
  refine ⟨[(14, 53)], [], .tup [], WH now (upd R 11 (R 11 ++ [a])) T M c X L, 52, ?_, hK⟩
  repeat' (first | exact trivial | exact .inl (DLe.refl _) | exact .inl (DLe.nil _ _) | (refine .inr ⟨rfl, _, ?_, rfl⟩; rfl) | exact rfl | exact Nat.zero_le _ | constructor)
end Go.Proofs.Ytcbpdjikdohegaa.V
