/-
  An alarm is laid on the wheel, place by place. Conditions: ticks not too great, the row not too long.
-/
import Derived.Test.YtcbpdjikdohegaaWaK
namespace Go.Proofs.Ytcbpdjikdohegaa.V
open Go.RowKit
attribute [local irreducible] Fn FnN CallVC OpVC Ob

theorem lay_24 (F : List (Nat × D)) (now : Int) (R : Nat → List Al) (T : List Al) (M : List ME) (c : Nat) (X : Int) (L : List Al) (a : Al) {K : D → St → Prop} (hr : plr now a.at_ = 1) (hp : plp now a.at_ = 8)
    (hF : F.all (fun p => cutOk 6 3 p.2) = true) (hn : 0 ≤ now ∧ now ≤ 1099511627776) (ht : 0 ≤ a.at_ ∧ a.at_ ≤ 1099511627776) (hl : (R 24).length ≤ 1000)
    (hK : K (.tup []) ⟨F, WH now (upd R 24 (R 24 ++ [a])) T M c X L, 52, (upto 3 0, 3)⟩) : CallVC Try.prog false 60 [.loc 0 0, .agg (alD a)] ⟨F, WH now R T M c X L, 52, (upto 3 0, 3)⟩ K := by
  have hpl := fun X => place_rd now a.at_ X hn ht
  rw [hr, hp] at hpl
  refine toIn 3 [(2, [0, 1, 2, 3, 4, 5, 6, 7, 8, 9, 10, 11, 14, 15, 16, 12, 13, 17, 18])] Try.func60 rfl (by kernel_rfl) (Nat.le_of_ble_eq_true rfl) (by decide) rfl rfl hF ?_
  conv => whnf
  refine CallVC.look (hpl _) rfl ?_
  rintro _ rfl
  conv => whnf
  refine ⟨by decide, ?_⟩
  conv => whnf
  refine ⟨by decide, ?_⟩
  conv => whnf
  refine ⟨by decide, ?_⟩
  conv => whnf
  (refine ⟨Nat.le_of_ble_eq_true rfl, ?_⟩; conv => whnf)
  refine ⟨Al, alD, R 24 ++ [a], (by rw [List.map_append]; rfl), fun _ => rfl, by simp only [List.length_append, List.length_cons, List.length_nil]; omega, by simp only [List.length_append, List.length_cons, List.length_nil]; omega, rfl, ?_⟩
  conv => whnf
  refine ⟨by decide, ?_⟩
  conv => whnf
  refine ⟨[(27, 53)], [], .tup [], WH now (upd R 24 (R 24 ++ [a])) T M c X L, 52, ?_, hK⟩
  repeat' (first | exact trivial | exact .inl (DLe.refl _) | exact .inl (DLe.nil _ _) | (refine .inr ⟨rfl, _, ?_, rfl⟩; rfl) | exact rfl | exact Nat.zero_le _ | constructor)

theorem lay_25 (F : List (Nat × D)) (now : Int) (R : Nat → List Al) (T : List Al) (M : List ME) (c : Nat) (X : Int) (L : List Al) (a : Al) {K : D → St → Prop} (hr : plr now a.at_ = 1) (hp : plp now a.at_ = 9)
    (hF : F.all (fun p => cutOk 6 3 p.2) = true) (hn : 0 ≤ now ∧ now ≤ 1099511627776) (ht : 0 ≤ a.at_ ∧ a.at_ ≤ 1099511627776) (hl : (R 25).length ≤ 1000)
    (hK : K (.tup []) ⟨F, WH now (upd R 25 (R 25 ++ [a])) T M c X L, 52, (upto 3 0, 3)⟩) : CallVC Try.prog false 60 [.loc 0 0, .agg (alD a)] ⟨F, WH now R T M c X L, 52, (upto 3 0, 3)⟩ K := by
  have hpl := fun X => place_rd now a.at_ X hn ht
  rw [hr, hp] at hpl
  refine toIn 3 [(2, [0, 1, 2, 3, 4, 5, 6, 7, 8, 9, 10, 11, 14, 15, 16, 12, 13, 17, 18])] Try.func60 rfl (by kernel_rfl) (Nat.le_of_ble_eq_true rfl) (by decide) rfl rfl hF ?_
  conv => whnf
  refine CallVC.look (hpl _) rfl ?_
  rintro _ rfl
  conv => whnf
  refine ⟨by decide, ?_⟩
  conv => whnf
  refine ⟨by decide, ?_⟩
  conv => whnf
  refine ⟨by decide, ?_⟩
  conv => whnf
  (refine ⟨Nat.le_of_ble_eq_true rfl, ?_⟩; conv => whnf)
  refine ⟨Al, alD, R 25 ++ [a], (by rw [List.map_append]; rfl), fun _ => rfl, by simp only [List.length_append, List.length_cons, List.length_nil]; omega, by simp only [List.length_append, List.length_cons, List.length_nil]; omega, rfl, ?_⟩
  conv => whnf
  refine ⟨by decide, ?_⟩
  conv => whnf
  refine ⟨[(28, 53)], [], .tup [], WH now (upd R 25 (R 25 ++ [a])) T M c X L, 52, ?_, hK⟩
  repeat' (first | exact trivial | exact .inl (DLe.refl _) | exact .inl (DLe.nil _ _) | (refine .inr ⟨rfl, _, ?_, rfl⟩; rfl) | exact rfl | exact Nat.zero_le _ | constructor)

theorem lay_26 (F : List (Nat × D)) (now : Int) (R : Nat → List Al) (T : List Al) (M : List ME) (c : Nat) (X : Int) (L : List Al) (a : Al) {K : D → St → Prop} (hr : plr now a.at_ = 1) (hp : plp now a.at_ = 10)
    (hF : F.all (fun p => cutOk 6 3 p.2) = true) (hn : 0 ≤ now ∧ now ≤ 1099511627776) (ht : 0 ≤ a.at_ ∧ a.at_ ≤ 1099511627776) (hl : (R 26).length ≤ 1000)
    (hK : K (.tup []) ⟨F, WH now (upd R 26 (R 26 ++ [a])) T M c X L, 52, (upto 3 0, 3)⟩) : CallVC Try.prog false 60 [.loc 0 0, .agg (alD a)] ⟨F, WH now R T M c X L, 52, (upto 3 0, 3)⟩ K := by
  have hpl := fun X => place_rd now a.at_ X hn ht
  rw [hr, hp] at hpl
  refine toIn 3 [(2, [0, 1, 2, 3, 4, 5, 6, 7, 8, 9, 10, 11, 14, 15, 16, 12, 13, 17, 18])] Try.func60 rfl (by kernel_rfl) (Nat.le_of_ble_eq_true rfl) (by decide) rfl rfl hF ?_
  conv => whnf
  refine CallVC.look (hpl _) rfl ?_
  rintro _ rfl
  conv => whnf
  refine ⟨by decide, ?_⟩
  conv => whnf
  refine ⟨by decide, ?_⟩
  conv => whnf
  refine ⟨by decide, ?_⟩
  conv => whnf
  (refine ⟨Nat.le_of_ble_eq_true rfl, ?_⟩; conv => whnf)
  refine ⟨Al, alD, R 26 ++ [a], (by rw [List.map_append]; rfl), fun _ => rfl, by simp only [List.length_append, List.length_cons, List.length_nil]; omega, by simp only [List.length_append, List.length_cons, List.length_nil]; omega, rfl, ?_⟩
  conv => whnf
  refine ⟨by decide, ?_⟩
  conv => whnf
  refine ⟨[(29, 53)], [], .tup [], WH now (upd R 26 (R 26 ++ [a])) T M c X L, 52, ?_, hK⟩
  repeat' (first | exact trivial | exact .inl (DLe.refl _) | exact .inl (DLe.nil _ _) | (refine .inr ⟨rfl, _, ?_, rfl⟩; rfl) | exact rfl | exact Nat.zero_le _ | constructor)

theorem lay_27 (F : List (Nat × D)) (now : Int) (R : Nat → List Al) (T : List Al) (M : List ME) (c : Nat) (X : Int) (L : List Al) (a : Al) {K : D → St → Prop} (hr : plr now a.at_ = 1) (hp : plp now a.at_ = 11)
    (hF : F.all (fun p => cutOk 6 3 p.2) = true) (hn : 0 ≤ now ∧ now ≤ 1099511627776) (ht : 0 ≤ a.at_ ∧ a.at_ ≤ 1099511627776) (hl : (R 27).length ≤ 1000)
    (hK : K (.tup []) ⟨F, WH now (upd R 27 (R 27 ++ [a])) T M c X L, 52, (upto 3 0, 3)⟩) : CallVC Try.prog false 60 [.loc 0 0, .agg (alD a)] ⟨F, WH now R T M c X L, 52, (upto 3 0, 3)⟩ K := by
  have hpl := fun X => place_rd now a.at_ X hn ht
  rw [hr, hp] at hpl
  refine toIn 3 [(2, [0, 1, 2, 3, 4, 5, 6, 7, 8, 9, 10, 11, 14, 15, 16, 12, 13, 17, 18])] Try.func60 rfl (by kernel_rfl) (Nat.le_of_ble_eq_true rfl) (by decide) rfl rfl hF ?_
  conv => whnf
  refine CallVC.look (hpl _) rfl ?_
  rintro _ rfl
  conv => whnf
  refine ⟨by decide, ?_⟩
  conv => whnf
  refine ⟨by decide, ?_⟩
  conv => whnf
  refine ⟨by decide, ?_⟩
  conv => whnf
  (refine ⟨Nat.le_of_ble_eq_true rfl, ?_⟩; conv => whnf)
  refine ⟨Al, alD, R 27 ++ [a], (by rw [List.map_append]; rfl), fun _ => rfl, by simp only [List.length_append, List.length_cons, List.length_nil]; omega, by simp only [List.length_append, List.length_cons, List.length_nil]; omega, rfl, ?_⟩
  conv => whnf
  refine ⟨by decide, ?_⟩
  conv => whnf
  refine ⟨[(30, 53)], [], .tup [], WH now (upd R 27 (R 27 ++ [a])) T M c X L, 52, ?_, hK⟩
  repeat' (first | exact trivial | exact .inl (DLe.refl _) | exact .inl (DLe.nil _ _) | (refine .inr ⟨rfl, _, ?_, rfl⟩; rfl) | exact rfl | exact Nat.zero_le _ | constructor)

theorem lay_28 (F : List (Nat × D)) (now : Int) (R : Nat → List Al) (T : List Al) (M : List ME) (c : Nat) (X : Int) (L : List Al) (a : Al) {K : D → St → Prop} (hr : plr now a.at_ = 1) (hp : plp now a.at_ = 12)
    (hF : F.all (fun p => cutOk 6 3 p.2) = true) (hn : 0 ≤ now ∧ now ≤ 1099511627776) (ht : 0 ≤ a.at_ ∧ a.at_ ≤ 1099511627776) (hl : (R 28).length ≤ 1000)
    (hK : K (.tup []) ⟨F, WH now (upd R 28 (R 28 ++ [a])) T M c X L, 52, (upto 3 0, 3)⟩) : CallVC Try.prog false 60 [.loc 0 0, .agg (alD a)] ⟨F, WH now R T M c X L, 52, (upto 3 0, 3)⟩ K := by
  have hpl := fun X => place_rd now a.at_ X hn ht
  rw [hr, hp] at hpl
  refine toIn 3 [(2, [0, 1, 2, 3, 4, 5, 6, 7, 8, 9, 10, 11, 14, 15, 16, 12, 13, 17, 18])] Try.func60 rfl (by kernel_rfl) (Nat.le_of_ble_eq_true rfl) (by decide) rfl rfl hF ?_
  conv => whnf
  refine CallVC.look (hpl _) rfl ?_
  rintro _ rfl
  conv => whnf
  refine ⟨by decide, ?_⟩
  conv => whnf
  refine ⟨by decide, ?_⟩
  conv => whnf
  refine ⟨by decide, ?_⟩
  conv => whnf
  (refine ⟨Nat.le_of_ble_eq_true rfl, ?_⟩; conv => whnf)
  refine ⟨Al, alD, R 28 ++ [a], (by rw [List.map_append]; rfl), fun _ => rfl, by simp only [List.length_append, List.length_cons, List.length_nil]; omega, by simp only [List.length_append, List.length_cons, List.length_nil]; omega, rfl, ?_⟩
  conv => whnf
  refine ⟨by decide, ?_⟩
  conv => whnf
  refine ⟨[(31, 53)], [], .tup [], WH now (upd R 28 (R 28 ++ [a])) T M c X L, 52, ?_, hK⟩
  repeat' (first | exact trivial | exact .inl (DLe.refl _) | exact .inl (DLe.nil _ _) | (refine .inr ⟨rfl, _, ?_, rfl⟩; rfl) | exact rfl | exact Nat.zero_le _ | constructor)

theorem lay_29 (F : List (Nat × D)) (now : Int) (R : Nat → List Al) (T : List Al) (M : List ME) (c : Nat) (X : Int) (L : List Al) (a : Al) {K : D → St → Prop} (hr : plr now a.at_ = 1) (hp : plp now a.at_ = 13)
    (hF : F.all (fun p => cutOk 6 3 p.2) = true) (hn : 0 ≤ now ∧ now ≤ 1099511627776) (ht : 0 ≤ a.at_ ∧ a.at_ ≤ 1099511627776) (hl : (R 29).length ≤ 1000)
    (hK : K (.tup []) ⟨F, WH now (upd R 29 (R 29 ++ [a])) T M c X L, 52, (upto 3 0, 3)⟩) : CallVC Try.prog false 60 [.loc 0 0, .agg (alD a)] ⟨F, WH now R T M c X L, 52, (upto 3 0, 3)⟩ K := by
  have hpl := fun X => place_rd now a.at_ X hn ht
  rw [hr, hp] at hpl
  refine toIn 3 [(2, [0, 1, 2, 3, 4, 5, 6, 7, 8, 9, 10, 11, 14, 15, 16, 12, 13, 17, 18])] Try.func60 rfl (by kernel_rfl) (Nat.le_of_ble_eq_true rfl) (by decide) rfl rfl hF ?_
  conv => whnf
  refine CallVC.look (hpl _) rfl ?_
  rintro _ rfl
  conv => whnf
  refine ⟨by decide, ?_⟩
  conv => whnf
  refine ⟨by decide, ?_⟩
  conv => whnf
  refine ⟨by decide, ?_⟩
  conv => whnf
  (refine ⟨Nat.le_of_ble_eq_true rfl, ?_⟩; conv => whnf)
  refine ⟨Al, alD, R 29 ++ [a], (by rw [List.map_append]; rfl), fun _ => rfl, by simp only [List.length_append, List.length_cons, List.length_nil]; omega, by simp only [List.length_append, List.length_cons, List.length_nil]; omega, rfl, ?_⟩
  conv => whnf
  refine ⟨by decide, ?_⟩
  conv => whnf
  refine ⟨[(32, 53)], [], .tup [], WH now (upd R 29 (R 29 ++ [a])) T M c X L, 52, ?_, hK⟩
  repeat' (first | exact trivial | exact .inl (DLe.refl _) | exact .inl (DLe.nil _ _) | (refine .inr ⟨rfl, _, ?_, rfl⟩; rfl) | exact rfl | exact Nat.zero_le _ | constructor)

theorem lay_30 (F : List (Nat × D)) (now : Int) (R : Nat → List Al) (T : List Al) (M : List ME) (c : Nat) (X : Int) (L : List Al) (a : Al) {K : D → St → Prop} (hr : plr now a.at_ = 1) (hp : plp now a.at_ = 14)
    (hF : F.all (fun p => cutOk 6 3 p.2) = true) (hn : 0 ≤ now ∧ now ≤ 1099511627776) (ht : 0 ≤ a.at_ ∧ a.at_ ≤ 1099511627776) (hl : (R 30).length ≤ 1000)
    (hK : K (.tup []) ⟨F, WH now (upd R 30 (R 30 ++ [a])) T M c X L, 52, (upto 3 0, 3)⟩) : CallVC Try.prog false 60 [.loc 0 0, .agg (alD a)] ⟨F, WH now R T M c X L, 52, (upto 3 0, 3)⟩ K := by
  have hpl := fun X => place_rd now a.at_ X hn ht
  rw [hr, hp] at hpl
  refine toIn 3 [(2, [0, 1, 2, 3, 4, 5, 6, 7, 8, 9, 10, 11, 14, 15, 16, 12, 13, 17, 18])] Try.func60 rfl (by kernel_rfl) (Nat.le_of_ble_eq_true rfl) (by decide) rfl rfl hF ?_
  conv => whnf
  refine CallVC.look (hpl _) rfl ?_
  rintro _ rfl
  conv => whnf
  refine ⟨by decide, ?_⟩
  conv => whnf
  refine ⟨by decide, ?_⟩
  conv => whnf
  refine ⟨by decide, ?_⟩
  conv => whnf
  (refine ⟨Nat.le_of_ble_eq_true rfl, ?_⟩; conv => whnf)
  refine ⟨Al, alD, R 30 ++ [a], (by rw [List.map_append]; rfl), fun _ => rfl, by simp only [List.length_append, List.length_cons, List.length_nil]; omega, by simp only [List.length_append, List.length_cons, List.length_nil]; omega, rfl, ?_⟩
  conv => whnf
  refine ⟨by decide, ?_⟩
  conv => whnf
  refine ⟨[(33, 53)], [], .tup [], WH now (upd R 30 (R 30 ++ [a])) T M c X L, 52, ?_, hK⟩
  repeat' (first | exact trivial | exact .inl (DLe.refl _) | exact .inl (DLe.nil _ _) | (refine .inr ⟨rfl, _, ?_, rfl⟩; rfl) | exact rfl | exact Nat.zero_le _ | constructor)

theorem lay_31 (F : List (Nat × D)) (now : Int) (R : Nat → List Al) (T : List Al) (M : List ME) (c : Nat) (X : Int) (L : List Al) (a : Al) {K : D → St → Prop} (hr : plr now a.at_ = 1) (hp : plp now a.at_ = 15)
    (hF : F.all (fun p => cutOk 6 3 p.2) = true) (hn : 0 ≤ now ∧ now ≤ 1099511627776) (ht : 0 ≤ a.at_ ∧ a.at_ ≤ 1099511627776) (hl : (R 31).length ≤ 1000)
    (hK : K (.tup []) ⟨F, WH now (upd R 31 (R 31 ++ [a])) T M c X L, 52, (upto 3 0, 3)⟩) : CallVC Try.prog false 60 [.loc 0 0, .agg (alD a)] ⟨F, WH now R T M c X L, 52, (upto 3 0, 3)⟩ K := by
  have hpl := fun X => place_rd now a.at_ X hn ht
  rw [hr, hp] at hpl
  refine toIn 3 [(2, [0, 1, 2, 3, 4, 5, 6, 7, 8, 9, 10, 11, 14, 15, 16, 12, 13, 17, 18])] Try.func60 rfl (by kernel_rfl) (Nat.le_of_ble_eq_true rfl) (by decide) rfl rfl hF ?_
  conv => whnf
  refine CallVC.look (hpl _) rfl ?_
  rintro _ rfl
  conv => whnf
  refine ⟨by decide, ?_⟩
  conv => whnf
  refine ⟨by decide, ?_⟩
  conv => whnf
  refine ⟨by decide, ?_⟩
  conv => whnf
  (refine ⟨Nat.le_of_ble_eq_true rfl, ?_⟩; conv => whnf)
  refine ⟨Al, alD, R 31 ++ [a], (by rw [List.map_append]; rfl), fun _ => rfl, by simp only [List.length_append, List.length_cons, List.length_nil]; omega, by simp only [List.length_append, List.length_cons, List.length_nil]; omega, rfl, ?_⟩
  conv => whnf
  refine ⟨by decide, ?_⟩
  conv => whnf
  refine ⟨[(34, 53)], [], .tup [], WH now (upd R 31 (R 31 ++ [a])) T M c X L, 52, ?_, hK⟩
  repeat' (first | exact trivial | exact .inl (DLe.refl _) | exact .inl (DLe.nil _ _) | (refine .inr ⟨rfl, _, ?_, rfl⟩; rfl) | exact rfl | exact Nat.zero_le _ | constructor)

theorem lay_32 (F : List (Nat × D)) (now : Int) (R : Nat → List Al) (T : List Al) (M : List ME) (c : Nat) (X : Int) (L : List Al) (a : Al) {K : D → St → Prop} (hr : plr now a.at_ = 2) (hp : plp now a.at_ = 0)
    (hF : F.all (fun p => cutOk 6 3 p.2) = true) (hn : 0 ≤ now ∧ now ≤ 1099511627776) (ht : 0 ≤ a.at_ ∧ a.at_ ≤ 1099511627776) (hl : (R 32).length ≤ 1000)
    (hK : K (.tup []) ⟨F, WH now (upd R 32 (R 32 ++ [a])) T M c X L, 52, (upto 3 0, 3)⟩) : CallVC Try.prog false 60 [.loc 0 0, .agg (alD a)] ⟨F, WH now R T M c X L, 52, (upto 3 0, 3)⟩ K := by
  have hpl := fun X => place_rd now a.at_ X hn ht
  rw [hr, hp] at hpl
  refine toIn 3 [(2, [0, 1, 2, 3, 4, 5, 6, 7, 8, 9, 10, 11, 14, 15, 16, 12, 13, 17, 18])] Try.func60 rfl (by kernel_rfl) (Nat.le_of_ble_eq_true rfl) (by decide) rfl rfl hF ?_
  conv => whnf
  refine CallVC.look (hpl _) rfl ?_
  rintro _ rfl
  conv => whnf
  refine ⟨by decide, ?_⟩
  conv => whnf
  refine ⟨by decide, ?_⟩
  conv => whnf
  refine ⟨by decide, ?_⟩
  conv => whnf
  (refine ⟨Nat.le_of_ble_eq_true rfl, ?_⟩; conv => whnf)
  refine ⟨Al, alD, R 32 ++ [a], (by rw [List.map_append]; rfl), fun _ => rfl, by simp only [List.length_append, List.length_cons, List.length_nil]; omega, by simp only [List.length_append, List.length_cons, List.length_nil]; omega, rfl, ?_⟩
  conv => whnf
  refine ⟨by decide, ?_⟩
  conv => whnf
  refine ⟨[(35, 53)], [], .tup [], WH now (upd R 32 (R 32 ++ [a])) T M c X L, 52, ?_, hK⟩
  repeat' (first | exact trivial | exact .inl (DLe.refl _) | exact .inl (DLe.nil _ _) | (refine .inr ⟨rfl, _, ?_, rfl⟩; rfl) | exact rfl | exact Nat.zero_le _ | constructor)

theorem lay_33 (F : List (Nat × D)) (now : Int) (R : Nat → List Al) (T : List Al) (M : List ME) (c : Nat) (X : Int) (L : List Al) (a : Al) {K : D → St → Prop} (hr : plr now a.at_ = 2) (hp : plp now a.at_ = 1)
    (hF : F.all (fun p => cutOk 6 3 p.2) = true) (hn : 0 ≤ now ∧ now ≤ 1099511627776) (ht : 0 ≤ a.at_ ∧ a.at_ ≤ 1099511627776) (hl : (R 33).length ≤ 1000)
    (hK : K (.tup []) ⟨F, WH now (upd R 33 (R 33 ++ [a])) T M c X L, 52, (upto 3 0, 3)⟩) : CallVC Try.prog false 60 [.loc 0 0, .agg (alD a)] ⟨F, WH now R T M c X L, 52, (upto 3 0, 3)⟩ K := by
  have hpl := fun X => place_rd now a.at_ X hn ht
  rw [hr, hp] at hpl
  refine toIn 3 [(2, [0, 1, 2, 3, 4, 5, 6, 7, 8, 9, 10, 11, 14, 15, 16, 12, 13, 17, 18])] Try.func60 rfl (by kernel_rfl) (Nat.le_of_ble_eq_true rfl) (by decide) rfl rfl hF ?_
  conv => whnf
  refine CallVC.look (hpl _) rfl ?_
  rintro _ rfl
  conv => whnf
  refine ⟨by decide, ?_⟩
  conv => whnf
  refine ⟨by decide, ?_⟩
  conv => whnf
  refine ⟨by decide, ?_⟩
  conv => whnf
  (refine ⟨Nat.le_of_ble_eq_true rfl, ?_⟩; conv => whnf)
  refine ⟨Al, alD, R 33 ++ [a], (by rw [List.map_append]; rfl), fun _ => rfl, by simp only [List.length_append, List.length_cons, List.length_nil]; omega, by simp only [List.length_append, List.length_cons, List.length_nil]; omega, rfl, ?_⟩
  conv => whnf
  refine ⟨by decide, ?_⟩
  conv => whnf
  refine ⟨[(36, 53)], [], .tup [], WH now (upd R 33 (R 33 ++ [a])) T M c X L, 52, ?_, hK⟩
  repeat' (first | exact trivial | exact .inl (DLe.refl _) | exact .inl (DLe.nil _ _) | (refine .inr ⟨rfl, _, ?_, rfl⟩; rfl) | exact rfl | exact Nat.zero_le _ | constructor)

theorem lay_34 (F : List (Nat × D)) (now : Int) (R : Nat → List Al) (T : List Al) (M : List ME) (c : Nat) (X : Int) (L : List Al) (a : Al) {K : D → St → Prop} (hr : plr now a.at_ = 2) (hp : plp now a.at_ = 2)
    (hF : F.all (fun p => cutOk 6 3 p.2) = true) (hn : 0 ≤ now ∧ now ≤ 1099511627776) (ht : 0 ≤ a.at_ ∧ a.at_ ≤ 1099511627776) (hl : (R 34).length ≤ 1000)
    (hK : K (.tup []) ⟨F, WH now (upd R 34 (R 34 ++ [a])) T M c X L, 52, (upto 3 0, 3)⟩) : CallVC Try.prog false 60 [.loc 0 0, .agg (alD a)] ⟨F, WH now R T M c X L, 52, (upto 3 0, 3)⟩ K := by
  have hpl := fun X => place_rd now a.at_ X hn ht
  rw [hr, hp] at hpl
  refine toIn 3 [(2, [0, 1, 2, 3, 4, 5, 6, 7, 8, 9, 10, 11, 14, 15, 16, 12, 13, 17, 18])] Try.func60 rfl (by kernel_rfl) (Nat.le_of_ble_eq_true rfl) (by decide) rfl rfl hF ?_
  conv => whnf
  refine CallVC.look (hpl _) rfl ?_
  rintro _ rfl
  conv => whnf
  refine ⟨by decide, ?_⟩
  conv => whnf
  refine ⟨by decide, ?_⟩
  conv => whnf
  refine ⟨by decide, ?_⟩
  conv => whnf
  (refine ⟨Nat.le_of_ble_eq_true rfl, ?_⟩; conv => whnf)
  refine ⟨Al, alD, R 34 ++ [a], (by rw [List.map_append]; rfl), fun _ => rfl, by simp only [List.length_append, List.length_cons, List.length_nil]; omega, by simp only [List.length_append, List.length_cons, List.length_nil]; omega, rfl, ?_⟩
  conv => whnf
  refine ⟨by decide, ?_⟩
  conv => whnf
  refine ⟨[(37, 53)], [], .tup [], WH now (upd R 34 (R 34 ++ [a])) T M c X L, 52, ?_, hK⟩
  repeat' (first | exact trivial | exact .inl (DLe.refl _) | exact .inl (DLe.nil _ _) | (refine .inr ⟨rfl, _, ?_, rfl⟩; rfl) | exact rfl | exact Nat.zero_le _ | constructor)

theorem lay_35 (F : List (Nat × D)) (now : Int) (R : Nat → List Al) (T : List Al) (M : List ME) (c : Nat) (X : Int) (L : List Al) (a : Al) {K : D → St → Prop} (hr : plr now a.at_ = 2) (hp : plp now a.at_ = 3)
    (hF : F.all (fun p => cutOk 6 3 p.2) = true) (hn : 0 ≤ now ∧ now ≤ 1099511627776) (ht : 0 ≤ a.at_ ∧ a.at_ ≤ 1099511627776) (hl : (R 35).length ≤ 1000)
    (hK : K (.tup []) ⟨F, WH now (upd R 35 (R 35 ++ [a])) T M c X L, 52, (upto 3 0, 3)⟩) : CallVC Try.prog false 60 [.loc 0 0, .agg (alD a)] ⟨F, WH now R T M c X L, 52, (upto 3 0, 3)⟩ K := by
  have hpl := fun X => place_rd now a.at_ X hn ht
  rw [hr, hp] at hpl
  refine toIn 3 [(2, [0, 1, 2, 3, 4, 5, 6, 7, 8, 9, 10, 11, 14, 15, 16, 12, 13, 17, 18])] Try.func60 rfl (by kernel_rfl) (Nat.le_of_ble_eq_true rfl) (by decide) rfl rfl hF ?_
  conv => whnf
  refine CallVC.look (hpl _) rfl ?_
  rintro _ rfl
  conv => whnf
  refine ⟨by decide, ?_⟩
  conv => whnf
  refine ⟨by decide, ?_⟩
  conv => whnf
  refine ⟨by decide, ?_⟩
  conv => whnf
  (refine ⟨Nat.le_of_ble_eq_true rfl, ?_⟩; conv => whnf)
  refine ⟨Al, alD, R 35 ++ [a], (by rw [List.map_append]; rfl), fun _ => rfl, by simp only [List.length_append, List.length_cons, List.length_nil]; omega, by simp only [List.length_append, List.length_cons, List.length_nil]; omega, rfl, ?_⟩
  conv => whnf
  refine ⟨by decide, ?_⟩
  conv => whnf
  refine ⟨[(38, 53)], [], .tup [], WH now (upd R 35 (R 35 ++ [a])) T M c X L, 52, ?_, hK⟩
  repeat' (first | exact trivial | exact .inl (DLe.refl _) | exact .inl (DLe.nil _ _) | (refine .inr ⟨rfl, _, ?_, rfl⟩; rfl) | exact rfl | exact Nat.zero_le _ | constructor)
end Go.Proofs.Ytcbpdjikdohegaa.V
