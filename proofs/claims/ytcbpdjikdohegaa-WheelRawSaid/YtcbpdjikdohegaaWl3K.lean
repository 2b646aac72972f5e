/-
  An alarm is laid on the wheel, place by place. Conditions: ticks not too great, the row not too long.
-/
import Derived.Test.YtcbpdjikdohegaaWaK
namespace Go.Proofs.Ytcbpdjikdohegaa.V
open Go.RowKit
attribute [local irreducible] Fn FnN CallVC OpVC Ob

theorem lay_36 (F : List (Nat × D)) (now : Int) (R : Nat → List Al) (T : List Al) (M : List ME) (c : Nat) (X : Int) (L : List Al) (a : Al) {K : D → St → Prop} (hr : plr now a.at_ = 2) (hp : plp now a.at_ = 4)
    (hF : F.all (fun p => cutOk 6 3 p.2) = true) (hn : 0 ≤ now ∧ now ≤ 1099511627776) (ht : 0 ≤ a.at_ ∧ a.at_ ≤ 1099511627776) (hl : (R 36).length ≤ 1000)
    (hK : K (.tup []) ⟨F, WH now (upd R 36 (R 36 ++ [a])) T M c X L, 52, (upto 3 0, 3)⟩) : CallVC Try.prog false 60 [.loc 0 0, .agg (alD a)] ⟨F, WH now R T M c X L, 52, (upto 3 0, 3)⟩ K := by
  have hpl := fun X => place_rd now a.at_ X hn ht
  rw [hr, hp] at hpl
  refine toIn 3 [(2, [0, 1, 2, 3, 4, 5, 6, 7, 8, 9, 10, 11, 14, 15, 16, 12, 13, 17, 18])] Try.func60 rfl (by kernel_rfl) (Nat.le_of_ble_eq_true rfl) (by decide) rfl rfl hF ?_
  conv => whnf
  refine CallVC.look (hpl _) rfl ?_
  rintro _ rfl
  conv => whnf
  refine ⟨by decide, ?_⟩
  conv => whnf
  refine ⟨by decide, ?_⟩
  conv => whnf
  refine ⟨by decide, ?_⟩
  conv => whnf
  (refine ⟨Nat.le_of_ble_eq_true rfl, ?_⟩; conv => whnf)
  refine ⟨Al, alD, R 36 ++ [a], (by rw [List.map_append]; rfl), fun _ => rfl, by simp only [List.length_append, List.length_cons, List.length_nil]; omega, by simp only [List.length_append, List.length_cons, List.length_nil]; omega, rfl, ?_⟩
  conv => whnf
  refine ⟨by decide, ?_⟩
  conv => whnf
  refine ⟨[(39, 53)], [], .tup [], WH now (upd R 36 (R 36 ++ [a])) T M c X L, 52, ?_, hK⟩
  repeat' (first | exact trivial | exact .inl (DLe.refl _) | exact .inl (DLe.nil _ _) | (refine .inr ⟨rfl, _, ?_, rfl⟩; rfl) | exact rfl | exact Nat.zero_le _ | constructor)

theorem lay_37 (F : List (Nat × D)) (now : Int) (R : Nat → List Al) (T : List Al) (M : List ME) (c : Nat) (X : Int) (L : List Al) (a : Al) {K : D → St → Prop} (hr : plr now a.at_ = 2) (hp : plp now a.at_ = 5)
    (hF : F.all (fun p => cutOk 6 3 p.2) = true) (hn : 0 ≤ now ∧ now ≤ 1099511627776) (ht : 0 ≤ a.at_ ∧ a.at_ ≤ 1099511627776) (hl : (R 37).length ≤ 1000)
    (hK : K (.tup []) ⟨F, WH now (upd R 37 (R 37 ++ [a])) T M c X L, 52, (upto 3 0, 3)⟩) : CallVC Try.prog false 60 [.loc 0 0, .agg (alD a)] ⟨F, WH now R T M c X L, 52, (upto 3 0, 3)⟩ K := by
  have hpl := fun X => place_rd now a.at_ X hn ht
  rw [hr, hp] at hpl
  refine toIn 3 [(2, [0, 1, 2, 3, 4, 5, 6, 7, 8, 9, 10, 11, 14, 15, 16, 12, 13, 17, 18])] Try.func60 rfl (by kernel_rfl) (Nat.le_of_ble_eq_true rfl) (by decide) rfl rfl hF ?_
  conv => whnf
  refine CallVC.look (hpl _) rfl ?_
  rintro _ rfl
  conv => whnf
  refine ⟨by decide, ?_⟩
  conv => whnf
  refine ⟨by decide, ?_⟩
  conv => whnf
  refine ⟨by decide, ?_⟩
  conv => whnf
  (refine ⟨Nat.le_of_ble_eq_true rfl, ?_⟩; conv => whnf)
  refine ⟨Al, alD, R 37 ++ [a], (by rw [List.map_append]; rfl), fun _ => rfl, by simp only [List.length_append, List.length_cons, List.length_nil]; omega, by simp only [List.length_append, List.length_cons, List.length_nil]; omega, rfl, ?_⟩
  conv => whnf
  refine ⟨by decide, ?_⟩
  conv => whnf
  refine ⟨[(40, 53)], [], .tup [], WH now (upd R 37 (R 37 ++ [a])) T M c X L, 52, ?_, hK⟩
  repeat' (first | exact trivial | exact .inl (DLe.refl _) | exact .inl (DLe.nil _ _) | (refine .inr ⟨rfl, _, ?_, rfl⟩; rfl) | exact rfl | exact Nat.zero_le _ | constructor)

theorem lay_38 (F : List (Nat × D)) (now : Int) (R : Nat → List Al) (T : List Al) (M : List ME) (c : Nat) (X : Int) (L : List Al) (a : Al) {K : D → St → Prop} (hr : plr now a.at_ = 2) (hp : plp now a.at_ = 6)
    (hF : F.all (fun p => cutOk 6 3 p.2) = true) (hn : 0 ≤ now ∧ now ≤ 1099511627776) (ht : 0 ≤ a.at_ ∧ a.at_ ≤ 1099511627776) (hl : (R 38).length ≤ 1000)
    (hK : K (.tup []) ⟨F, WH now (upd R 38 (R 38 ++ [a])) T M c X L, 52, (upto 3 0, 3)⟩) : CallVC Try.prog false 60 [.loc 0 0, .agg (alD a)] ⟨F, WH now R T M c X L, 52, (upto 3 0, 3)⟩ K := by
  have hpl := fun X => place_rd now a.at_ X hn ht
  rw [hr, hp] at hpl
  refine toIn 3 [(2, [0, 1, 2, 3, 4, 5, 6, 7, 8, 9, 10, 11, 14, 15, 16, 12, 13, 17, 18])] Try.func60 rfl (by kernel_rfl) (Nat.le_of_ble_eq_true rfl) (by decide) rfl rfl hF ?_
  conv => whnf
  refine CallVC.look (hpl _) rfl ?_
  rintro _ rfl
  conv => whnf
  refine ⟨by decide, ?_⟩
  conv => whnf
  refine ⟨by decide, ?_⟩
  conv => whnf
  refine ⟨by decide, ?_⟩
  conv => whnf
  (refine ⟨Nat.le_of_ble_eq_true rfl, ?_⟩; conv => whnf)
  refine ⟨Al, alD, R 38 ++ [a], (by rw [List.map_append]; rfl), fun _ => rfl, by simp only [List.length_append, List.length_cons, List.length_nil]; omega, by simp only [List.length_append, List.length_cons, List.length_nil]; omega, rfl, ?_⟩
  conv => whnf
  refine ⟨by decide, ?_⟩
  conv => whnf
  refine ⟨[(41, 53)], [], .tup [], WH now (upd R 38 (R 38 ++ [a])) T M c X L, 52, ?_, hK⟩
  repeat' (first | exact trivial | exact .inl (DLe.refl _) | exact .inl (DLe.nil _ _) | (refine .inr ⟨rfl, _, ?_, rfl⟩; rfl) | exact rfl | exact Nat.zero_le _ | constructor)

theorem lay_39 (F : List (Nat × D)) (now : Int) (R : Nat → List Al) (T : List Al) (M : List ME) (c : Nat) (X : Int) (L : List Al) (a : Al) {K : D → St → Prop} (hr : plr now a.at_ = 2) (hp : plp now a.at_ = 7)
    (hF : F.all (fun p => cutOk 6 3 p.2) = true) (hn : 0 ≤ now ∧ now ≤ 1099511627776) (ht : 0 ≤ a.at_ ∧ a.at_ ≤ 1099511627776) (hl : (R 39).length ≤ 1000)
    (hK : K (.tup []) ⟨F, WH now (upd R 39 (R 39 ++ [a])) T M c X L, 52, (upto 3 0, 3)⟩) : CallVC Try.prog false 60 [.loc 0 0, .agg (alD a)] ⟨F, WH now R T M c X L, 52, (upto 3 0, 3)⟩ K := by
  have hpl := fun X => place_rd now a.at_ X hn ht
  rw [hr, hp] at hpl
  refine toIn 3 [(2, [0, 1, 2, 3, 4, 5, 6, 7, 8, 9, 10, 11, 14, 15, 16, 12, 13, 17, 18])] Try.func60 rfl (by kernel_rfl) (Nat.le_of_ble_eq_true rfl) (by decide) rfl rfl hF ?_
  conv => whnf
  refine CallVC.look (hpl _) rfl ?_
  rintro _ rfl
  conv => whnf
  refine ⟨by decide, ?_⟩
  conv => whnf
  refine ⟨by decide, ?_⟩
  conv => whnf
  refine ⟨by decide, ?_⟩
  conv => whnf
  (refine ⟨Nat.le_of_ble_eq_true rfl, ?_⟩; conv => whnf)
  refine ⟨Al, alD, R 39 ++ [a], (by rw [List.map_append]; rfl), fun _ => rfl, by simp only [List.length_append, List.length_cons, List.length_nil]; omega, by simp only [List.length_append, List.length_cons, List.length_nil]; omega, rfl, ?_⟩
  conv => whnf
  refine ⟨by decide, ?_⟩
  conv => whnf
  refine ⟨[(42, 53)], [], .tup [], WH now (upd R 39 (R 39 ++ [a])) T M c X L, 52, ?_, hK⟩
  repeat' (first | exact trivial | exact .inl (DLe.refl _) | exact .inl (DLe.nil _ _) | (refine .inr ⟨rfl, _, ?_, rfl⟩; rfl) | exact rfl | exact Nat.zero_le _ | constructor)

theorem lay_40 (F : List (Nat × D)) (now : Int) (R : Nat → List Al) (T : List Al) (M : List ME) (c : Nat) (X : Int) (L : List Al) (a : Al) {K : D → St → Prop} (hr : plr now a.at_ = 2) (hp : plp now a.at_ = 8)
    (hF : F.all (fun p => cutOk 6 3 p.2) = true) (hn : 0 ≤ now ∧ now ≤ 1099511627776) (ht : 0 ≤ a.at_ ∧ a.at_ ≤ 1099511627776) (hl : (R 40).length ≤ 1000)
    (hK : K (.tup []) ⟨F, WH now (upd R 40 (R 40 ++ [a])) T M c X L, 52, (upto 3 0, 3)⟩) : CallVC Try.prog false 60 [.loc 0 0, .agg (alD a)] ⟨F, WH now R T M c X L, 52, (upto 3 0, 3)⟩ K := by
  have hpl := fun X => place_rd now a.at_ X hn ht
  rw [hr, hp] at hpl
  refine toIn 3 [(2, [0, 1, 2, 3, 4, 5, 6, 7, 8, 9, 10, 11, 14, 15, 16, 12, 13, 17, 18])] Try.func60 rfl (by kernel_rfl) (Nat.le_of_ble_eq_true rfl) (by decide) rfl rfl hF ?_
  conv => whnf
  refine CallVC.look (hpl _) rfl ?_
  rintro _ rfl
  conv => whnf
  refine ⟨by decide, ?_⟩
  conv => whnf
  refine ⟨by decide, ?_⟩
  conv => whnf
  refine ⟨by decide, ?_⟩
  conv => whnf
  (refine ⟨Nat.le_of_ble_eq_true rfl, ?_⟩; conv => whnf)
  refine ⟨Al, alD, R 40 ++ [a], (by rw [List.map_append]; rfl), fun _ => rfl, by simp only [List.length_append, List.length_cons, List.length_nil]; omega, by simp only [List.length_append, List.length_cons, List.length_nil]; omega, rfl, ?_⟩
  conv => whnf
  refine ⟨by decide, ?_⟩
  conv => whnf
  refine ⟨[(43, 53)], [], .tup [], WH now (upd R 40 (R 40 ++ [a])) T M c X L, 52, ?_, hK⟩
  repeat' (first | exact trivial | exact .inl (DLe.refl _) | exact .inl (DLe.nil _ _) | (refine .inr ⟨rfl, _, ?_, rfl⟩; rfl) | exact rfl | exact Nat.zero_le _ | constructor)

theorem lay_41 (F : List (Nat × D)) (now : Int) (R : Nat → List Al) (T : List Al) (M : List ME) (c : Nat) (X : Int) (L : List Al) (a : Al) {K : D → St → Prop} (hr : plr now a.at_ = 2) (hp : plp now a.at_ = 9)
    (hF : F.all (fun p => cutOk 6 3 p.2) = true) (hn : 0 ≤ now ∧ now ≤ 1099511627776) (ht : 0 ≤ a.at_ ∧ a.at_ ≤ 1099511627776) (hl : (R 41).length ≤ 1000)
    (hK : K (.tup []) ⟨F, WH now (upd R 41 (R 41 ++ [a])) T M c X L, 52, (upto 3 0, 3)⟩) : CallVC Try.prog false 60 [.loc 0 0, .agg (alD a)] ⟨F, WH now R T M c X L, 52, (upto 3 0, 3)⟩ K := by
  have hpl := fun X => place_rd now a.at_ X hn ht
  rw [hr, hp] at hpl
  refine toIn 3 [(2, [0, 1, 2, 3, 4, 5, 6, 7, 8, 9, 10, 11, 14, 15, 16, 12, 13, 17, 18])] Try.func60 rfl (by kernel_rfl) (Nat.le_of_ble_eq_true rfl) (by decide) rfl rfl hF ?_
  conv => whnf
  refine CallVC.look (hpl _) rfl ?_
  rintro _ rfl
  conv => whnf
  refine ⟨by decide, ?_⟩
  conv => whnf
  refine ⟨by decide, ?_⟩
  conv => whnf
  refine ⟨by decide, ?_⟩
  conv => whnf
  (refine ⟨Nat.le_of_ble_eq_true rfl, ?_⟩; conv => whnf)
  refine ⟨Al, alD, R 41 ++ [a], (by rw [List.map_append]; rfl), fun _ => rfl, by simp only [List.length_append, List.length_cons, List.length_nil]; omega, by simp only [List.length_append, List.length_cons, List.length_nil]; omega, rfl, ?_⟩
  conv => whnf
  refine ⟨by decide, ?_⟩
  conv => whnf
  refine ⟨[(44, 53)], [], .tup [], WH now (upd R 41 (R 41 ++ [a])) T M c X L, 52, ?_, hK⟩
  repeat' (first | exact trivial | exact .inl (DLe.refl _) | exact .inl (DLe.nil _ _) | (refine .inr ⟨rfl, _, ?_, rfl⟩; rfl) | exact rfl | exact Nat.zero_le _ | constructor)

theorem lay_42 (F : List (Nat × D)) (now : Int) (R : Nat → List Al) (T : List Al) (M : List ME) (c : Nat) (X : Int) (L : List Al) (a : Al) {K : D → St → Prop} (hr : plr now a.at_ = 2) (hp : plp now a.at_ = 10)
    (hF : F.all (fun p => cutOk 6 3 p.2) = true) (hn : 0 ≤ now ∧ now ≤ 1099511627776) (ht : 0 ≤ a.at_ ∧ a.at_ ≤ 1099511627776) (hl : (R 42).length ≤ 1000)
    (hK : K (.tup []) ⟨F, WH now (upd R 42 (R 42 ++ [a])) T M c X L, 52, (upto 3 0, 3)⟩) : CallVC Try.prog false 60 [.loc 0 0, .agg (alD a)] ⟨F, WH now R T M c X L, 52, (upto 3 0, 3)⟩ K := by
  have hpl := fun X => place_rd now a.at_ X hn ht
  rw [hr, hp] at hpl
  refine toIn 3 [(2, [0, 1, 2, 3, 4, 5, 6, 7, 8, 9, 10, 11, 14, 15, 16, 12, 13, 17, 18])] Try.func60 rfl (by kernel_rfl) (Nat.le_of_ble_eq_true rfl) (by decide) rfl rfl hF ?_
  conv => whnf
  refine CallVC.look (hpl _) rfl ?_
  rintro _ rfl
  conv => whnf
  refine ⟨by decide, ?_⟩
  conv => whnf
  refine ⟨by decide, ?_⟩
  conv => whnf
  refine ⟨by decide, ?_⟩
  conv => whnf
  (refine ⟨Nat.le_of_ble_eq_true rfl, ?_⟩; conv => whnf)
  refine ⟨Al, alD, R 42 ++ [a], (by rw [List.map_append]; rfl), fun _ => rfl, by simp only [List.length_append, List.length_cons, List.length_nil]; omega, by simp only [List.length_append, List.length_cons, List.length_nil]; omega, rfl, ?_⟩
  conv => whnf
  refine ⟨by decide, ?_⟩
  conv => whnf
  refine ⟨[(45, 53)], [], .tup [], WH now (upd R 42 (R 42 ++ [a])) T M c X L, 52, ?_, hK⟩
  repeat' (first | exact trivial | exact .inl (DLe.refl _) | exact .inl (DLe.nil _ _) | (refine .inr ⟨rfl, _, ?_, rfl⟩; rfl) | exact rfl | exact Nat.zero_le _ | constructor)

theorem lay_43 (F : List (Nat × D)) (now : Int) (R : Nat → List Al) (T : List Al) (M : List ME) (c : Nat) (X : Int) (L : List Al) (a : Al) {K : D → St → Prop} (hr : plr now a.at_ = 2) (hp : plp now a.at_ = 11)
    (hF : F.all (fun p => cutOk 6 3 p.2) = true) (hn : 0 ≤ now ∧ now ≤ 1099511627776) (ht : 0 ≤ a.at_ ∧ a.at_ ≤ 1099511627776) (hl : (R 43).length ≤ 1000)
    (hK : K (.tup []) ⟨F, WH now (upd R 43 (R 43 ++ [a])) T M c X L, 52, (upto 3 0, 3)⟩) : CallVC Try.prog false 60 [.loc 0 0, .agg (alD a)] ⟨F, WH now R T M c X L, 52, (upto 3 0, 3)⟩ K := by
  have hpl := fun X => place_rd now a.at_ X hn ht
  rw [hr, hp] at hpl
  refine toIn 3 [(2, [0, 1, 2, 3, 4, 5, 6, 7, 8, 9, 10, 11, 14, 15, 16, 12, 13, 17, 18])] Try.func60 rfl (by kernel_rfl) (Nat.le_of_ble_eq_true rfl) (by decide) rfl rfl hF ?_
  conv => whnf
  refine CallVC.look (hpl _) rfl ?_
  rintro _ rfl
  conv => whnf
  refine ⟨by decide, ?_⟩
  conv => whnf
  refine ⟨by decide, ?_⟩
  conv => whnf
  refine ⟨by decide, ?_⟩
  conv => whnf
  (refine ⟨Nat.le_of_ble_eq_true rfl, ?_⟩; conv => whnf)
  refine ⟨Al, alD, R 43 ++ [a], (by rw [List.map_append]; rfl), fun _ => rfl, by simp only [List.length_append, List.length_cons, List.length_nil]; omega, by simp only [List.length_append, List.length_cons, List.length_nil]; omega, rfl, ?_⟩
  conv => whnf
  refine ⟨by decide, ?_⟩
  conv => whnf
  refine ⟨[(46, 53)], [], .tup [], WH now (upd R 43 (R 43 ++ [a])) T M c X L, 52, ?_, hK⟩
  repeat' (first | exact trivial | exact .inl (DLe.refl _) | exact .inl (DLe.nil _ _) | (refine .inr ⟨rfl, _, ?_, rfl⟩; rfl) | exact rfl | exact Nat.zero_le _ | constructor)

theorem lay_44 (F : List (Nat × D)) (now : Int) (R : Nat → List Al) (T : List Al) (M : List ME) (c : Nat) (X : Int) (L : List Al) (a : Al) {K : D → St → Prop} (hr : plr now a.at_ = 2) (hp : plp now a.at_ = 12)
    (hF : F.all (fun p => cutOk 6 3 p.2) = true) (hn : 0 ≤ now ∧ now ≤ 1099511627776) (ht : 0 ≤ a.at_ ∧ a.at_ ≤ 1099511627776) (hl : (R 44).length ≤ 1000)
    (hK : K (.tup []) ⟨F, WH now (upd R 44 (R 44 ++ [a])) T M c X L, 52, (upto 3 0, 3)⟩) : CallVC Try.prog false 60 [.loc 0 0, .agg (alD a)] ⟨F, WH now R T M c X L, 52, (upto 3 0, 3)⟩ K := by
  have hpl := fun X => place_rd now a.at_ X hn ht
  rw [hr, hp] at hpl
  refine toIn 3 [(2, [0, 1, 2, 3, 4, 5, 6, 7, 8, 9, 10, 11, 14, 15, 16, 12, 13, 17, 18])] Try.func60 rfl (by kernel_rfl) (Nat.le_of_ble_eq_true rfl) (by decide) rfl rfl hF ?_
  conv => whnf
  refine CallVC.look (hpl _) rfl ?_
  rintro _ rfl
  conv => whnf
  refine ⟨by decide, ?_⟩
  conv => whnf
  refine ⟨by decide, ?_⟩
  conv => whnf
  refine ⟨by decide, ?_⟩
  conv => whnf
  (refine ⟨Nat.le_of_ble_eq_true rfl, ?_⟩; conv => whnf)
  refine ⟨Al, alD, R 44 ++ [a], (by rw [List.map_append]; rfl), fun _ => rfl, by simp only [List.length_append, List.length_cons, List.length_nil]; omega, by simp only [List.length_append, List.length_cons, List.length_nil]; omega, rfl, ?_⟩
  conv => whnf
  refine ⟨by decide, ?_⟩
  conv => whnf
  refine ⟨[(47, 53)], [], .tup [], WH now (upd R 44 (R 44 ++ [a])) T M c X L, 52, ?_, hK⟩
  repeat' (first | exact trivial | exact .inl (DLe.refl _) | exact .inl (DLe.nil _ _) | (refine .inr ⟨rfl, _, ?_, rfl⟩; rfl) | exact rfl | exact Nat.zero_le _ | constructor)

theorem lay_45 (F : List (Nat × D)) (now : Int) (R : Nat → List Al) (T : List Al) (M : List ME) (c : Nat) (X : Int) (L : List Al) (a : Al) {K : D → St → Prop} (hr : plr now a.at_ = 2) (hp : plp now a.at_ = 13)
    (hF : F.all (fun p => cutOk 6 3 p.2) = true) (hn : 0 ≤ now ∧ now ≤ 1099511627776) (ht : 0 ≤ a.at_ ∧ a.at_ ≤ 1099511627776) (hl : (R 45).length ≤ 1000)
    (hK : K (.tup []) ⟨F, WH now (upd R 45 (R 45 ++ [a])) T M c X L, 52, (upto 3 0, 3)⟩) : CallVC Try.prog false 60 [.loc 0 0, .agg (alD a)] ⟨F, WH now R T M c X L, 52, (upto 3 0, 3)⟩ K := by
  have hpl := fun X => place_rd now a.at_ X hn ht
  rw [hr, hp] at hpl
  refine toIn 3 [(2, [0, 1, 2, 3, 4, 5, 6, 7, 8, 9, 10, 11, 14, 15, 16, 12, 13, 17, 18])] Try.func60 rfl (by kernel_rfl) (Nat.le_of_ble_eq_true rfl) (by decide) rfl rfl hF ?_
  conv => whnf
  refine CallVC.look (hpl _) rfl ?_
  rintro _ rfl
  conv => whnf
  refine ⟨by decide, ?_⟩
  conv => whnf
  refine ⟨by decide, ?_⟩
  conv => whnf
  refine ⟨by decide, ?_⟩
  conv => whnf
  (refine ⟨Nat.le_of_ble_eq_true rfl, ?_⟩; conv => whnf)
  refine ⟨Al, alD, R 45 ++ [a], (by rw [List.map_append]; rfl), fun _ => rfl, by simp only [List.length_append, List.length_cons, List.length_nil]; omega, by simp only [List.length_append, List.length_cons, List.length_nil]; omega, rfl, ?_⟩
  conv => whnf
  refine ⟨by decide, ?_⟩
  conv => whnf
  refine ⟨[(48, 53)], [], .tup [], WH now (upd R 45 (R 45 ++ [a])) T M c X L, 52, ?_, hK⟩
  repeat' (first | exact trivial | exact .inl (DLe.refl _) | exact .inl (DLe.nil _ _) | (refine .inr ⟨rfl, _, ?_, rfl⟩; rfl) | exact rfl | exact Nat.zero_le _ | constructor)

theorem lay_46 (F : List (Nat × D)) (now : Int) (R : Nat → List Al) (T : List Al) (M : List ME) (c : Nat) (X : Int) (L : List Al) (a : Al) {K : D → St → Prop} (hr : plr now a.at_ = 2) (hp : plp now a.at_ = 14)
    (hF : F.all (fun p => cutOk 6 3 p.2) = true) (hn : 0 ≤ now ∧ now ≤ 1099511627776) (ht : 0 ≤ a.at_ ∧ a.at_ ≤ 1099511627776) (hl : (R 46).length ≤ 1000)
    (hK : K (.tup []) ⟨F, WH now (upd R 46 (R 46 ++ [a])) T M c X L, 52, (upto 3 0, 3)⟩) : CallVC Try.prog false 60 [.loc 0 0, .agg (alD a)] ⟨F, WH now R T M c X L, 52, (upto 3 0, 3)⟩ K := by
  have hpl := fun X => place_rd now a.at_ X hn ht
  rw [hr, hp] at hpl
  refine toIn 3 [(2, [0, 1, 2, 3, 4, 5, 6, 7, 8, 9, 10, 11, 14, 15, 16, 12, 13, 17, 18])] Try.func60 rfl (by kernel_rfl) (Nat.le_of_ble_eq_true rfl) (by decide) rfl rfl hF ?_
  conv => whnf
  refine CallVC.look (hpl _) rfl ?_
  rintro _ rfl
  conv => whnf
  refine ⟨by decide, ?_⟩
  conv => whnf
  refine ⟨by decide, ?_⟩
  conv => whnf
  refine ⟨by decide, ?_⟩
  conv => whnf
  (refine ⟨Nat.le_of_ble_eq_true rfl, ?_⟩; conv => whnf)
  refine ⟨Al, alD, R 46 ++ [a], (by rw [List.map_append]; rfl), fun _ => rfl, by simp only [List.length_append, List.length_cons, List.length_nil]; omega, by simp only [List.length_append, List.length_cons, List.length_nil]; omega, rfl, ?_⟩
  conv => whnf
  refine ⟨by decide, ?_⟩
  conv => whnf
  refine ⟨[(49, 53)], [], .tup [], WH now (upd R 46 (R 46 ++ [a])) T M c X L, 52, ?_, hK⟩
  repeat' (first | exact trivial | exact .inl (DLe.refl _) | exact .inl (DLe.nil _ _) | (refine .inr ⟨rfl, _, ?_, rfl⟩; rfl) | exact rfl | exact Nat.zero_le _ | constructor)

theorem lay_47 (F : List (Nat × D)) (now : Int) (R : Nat → List Al) (T : List Al) (M : List ME) (c : Nat) (X : Int) (L : List Al) (a : Al) {K : D → St → Prop} (hr : plr now a.at_ = 2) (hp : plp now a.at_ = 15)
    (hF : F.all (fun p => cutOk 6 3 p.2) = true) (hn : 0 ≤ now ∧ now ≤ 1099511627776) (ht : 0 ≤ a.at_ ∧ a.at_ ≤ 1099511627776) (hl : (R 47).length ≤ 1000)
    (hK : K (.tup []) ⟨F, WH now (upd R 47 (R 47 ++ [a])) T M c X L, 52, (upto 3 0, 3)⟩) : CallVC Try.prog false 60 [.loc 0 0, .agg (alD a)] ⟨F, WH now R T M c X L, 52, (upto 3 0, 3)⟩ K := by
  have hpl := fun X => place_rd now a.at_ X hn ht
  rw [hr, hp] at hpl
  refine toIn 3 [(2, [0, 1, 2, 3, 4, 5, 6, 7, 8, 9, 10, 11, 14, 15, 16, 12, 13, 17, 18])] Try.func60 rfl (by kernel_rfl) (Nat.le_of_ble_eq_true rfl) (by decide) rfl rfl hF ?_
  conv => whnf
  refine CallVC.look (hpl _) rfl ?_
  rintro _ rfl
  conv => whnf
  refine ⟨by decide, ?_⟩
  conv => whnf
  refine ⟨by decide, ?_⟩
  conv => whnf
  refine ⟨by decide, ?_⟩
  conv => whnf
  (refine ⟨Nat.le_of_ble_eq_true rfl, ?_⟩; conv => whnf)
  refine ⟨Al, alD, R 47 ++ [a], (by rw [List.map_append]; rfl), fun _ => rfl, by simp only [List.length_append, List.length_cons, List.length_nil]; omega, by simp only [List.length_append, List.length_cons, List.length_nil]; omega, rfl, ?_⟩
  conv => whnf
  refine ⟨by decide, ?_⟩
  conv => whnf
  refine ⟨[(50, 53)], [], .tup [], WH now (upd R 47 (R 47 ++ [a])) T M c X L, 52, ?_, hK⟩
  repeat' (first | exact trivial | exact .inl (DLe.refl _) | exact .inl (DLe.nil _ _) | (refine .inr ⟨rfl, _, ?_, rfl⟩; rfl) | exact rfl | exact Nat.zero_le _ | constructor)
end Go.Proofs.Ytcbpdjikdohegaa.V
