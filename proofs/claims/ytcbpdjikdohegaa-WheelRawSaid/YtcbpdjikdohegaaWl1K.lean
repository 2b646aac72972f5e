/-
  An alarm is laid on the wheel, place by place. Conditions: ticks not too great, the row not too long.
-/
import Derived.Test.YtcbpdjikdohegaaWaK
namespace Go.Proofs.Ytcbpdjikdohegaa.V
open Go.RowKit
attribute [local irreducible] Fn FnN CallVC OpVC Ob

theorem lay_12 (F : List (Nat × D)) (now : Int) (R : Nat → List Al) (T : List Al) (M : List ME) (c : Nat) (X : Int) (L : List Al) (a : Al) {K : D → St → Prop} (hr : plr now a.at_ = 0) (hp : plp now a.at_ = 12)
    (hF : F.all (fun p => cutOk 6 3 p.2) = true) (hn : 0 ≤ now ∧ now ≤ 1099511627776) (ht : 0 ≤ a.at_ ∧ a.at_ ≤ 1099511627776) (hl : (R 12).length ≤ 1000)
    (hK : K (.tup []) ⟨F, WH now (upd R 12 (R 12 ++ [a])) T M c X L, 52, (upto 3 0, 3)⟩) : CallVC Try.prog false 60 [.loc 0 0, .agg (alD a)] ⟨F, WH now R T M c X L, 52, (upto 3 0, 3)⟩ K := by
  have hpl := fun X => place_rd now a.at_ X hn ht
  rw [hr, hp] at hpl
  refine toIn 3 [(2, [0, 1, 2, 3, 4, 5, 6, 7, 8, 9, 10, 11, 14, 15, 16, 12, 13, 17, 18])] Try.func60 rfl (by kernel_rfl) (Nat.le_of_ble_eq_true rfl) (by decide) rfl rfl hF ?_
  conv => whnf
  refine CallVC.look (hpl _) rfl ?_
  rintro _ rfl
  conv => whnf
  refine ⟨by decide, ?_⟩
  conv => whnf
  refine ⟨by decide, ?_⟩
  conv => whnf
  refine ⟨by decide, ?_⟩
  conv => whnf
  (refine ⟨Nat.le_of_ble_eq_true rfl, ?_⟩; conv => whnf)
  refine ⟨Al, alD, R 12 ++ [a], (by rw [List.map_append]; rfl), fun _ => rfl, by simp only [List.length_append, List.length_cons, List.length_nil]; omega, by simp only [List.length_append, List.length_cons, List.length_nil]; omega, rfl, ?_⟩
  conv => whnf
  refine ⟨by decide, ?_⟩
  conv => whnf
  refine ⟨[(15, 53)], [], .tup [], WH now (upd R 12 (R 12 ++ [a])) T M c X L, 52, ?_, hK⟩
  repeat' (first | exact trivial | exact .inl (DLe.refl _) | exact .inl (DLe.nil _ _) | (refine .inr ⟨rfl, _, ?_, rfl⟩; rfl) | exact rfl | exact Nat.zero_le _ | constructor)

theorem lay_13 (F : List (Nat × D)) (now : Int) (R : Nat → List Al) (T : List Al) (M : List ME) (c : Nat) (X : Int) (L : List Al) (a : Al) {K : D → St → Prop} (hr : plr now a.at_ = 0) (hp : plp now a.at_ = 13)
    (hF : F.all (fun p => cutOk 6 3 p.2) = true) (hn : 0 ≤ now ∧ now ≤ 1099511627776) (ht : 0 ≤ a.at_ ∧ a.at_ ≤ 1099511627776) (hl : (R 13).length ≤ 1000)
    (hK : K (.tup []) ⟨F, WH now (upd R 13 (R 13 ++ [a])) T M c X L, 52, (upto 3 0, 3)⟩) : CallVC Try.prog false 60 [.loc 0 0, .agg (alD a)] ⟨F, WH now R T M c X L, 52, (upto 3 0, 3)⟩ K := by
  have hpl := fun X => place_rd now a.at_ X hn ht
  rw [hr, hp] at hpl
  refine toIn 3 [(2, [0, 1, 2, 3, 4, 5, 6, 7, 8, 9, 10, 11, 14, 15, 16, 12, 13, 17, 18])] Try.func60 rfl (by kernel_rfl) (Nat.le_of_ble_eq_true rfl) (by decide) rfl rfl hF ?_
  conv => whnf
  refine CallVC.look (hpl _) rfl ?_
  rintro _ rfl
  conv => whnf
  refine ⟨by decide, ?_⟩
  conv => whnf
  refine ⟨by decide, ?_⟩
  conv => whnf
  refine ⟨by decide, ?_⟩
  conv => whnf
  (refine ⟨Nat.le_of_ble_eq_true rfl, ?_⟩; conv => whnf)
  refine ⟨Al, alD, R 13 ++ [a], (by rw [List.map_append]; rfl), fun _ => rfl, by simp only [List.length_append, List.length_cons, List.length_nil]; omega, by simp only [List.length_append, List.length_cons, List.length_nil]; omega, rfl, ?_⟩
  conv => whnf
  refine ⟨by decide, ?_⟩
  conv => whnf
  refine ⟨[(16, 53)], [], .tup [], WH now (upd R 13 (R 13 ++ [a])) T M c X L, 52, ?_, hK⟩
  repeat' (first | exact trivial | exact .inl (DLe.refl _) | exact .inl (DLe.nil _ _) | (refine .inr ⟨rfl, _, ?_, rfl⟩; rfl) | exact rfl | exact Nat.zero_le _ | constructor)

theorem lay_14 (F : List (Nat × D)) (now : Int) (R : Nat → List Al) (T : List Al) (M : List ME) (c : Nat) (X : Int) (L : List Al) (a : Al) {K : D → St → Prop} (hr : plr now a.at_ = 0) (hp : plp now a.at_ = 14)
    (hF : F.all (fun p => cutOk 6 3 p.2) = true) (hn : 0 ≤ now ∧ now ≤ 1099511627776) (ht : 0 ≤ a.at_ ∧ a.at_ ≤ 1099511627776) (hl : (R 14).length ≤ 1000)
    (hK : K (.tup []) ⟨F, WH now (upd R 14 (R 14 ++ [a])) T M c X L, 52, (upto 3 0, 3)⟩) : CallVC Try.prog false 60 [.loc 0 0, .agg (alD a)] ⟨F, WH now R T M c X L, 52, (upto 3 0, 3)⟩ K := by
  have hpl := fun X => place_rd now a.at_ X hn ht
  rw [hr, hp] at hpl
  refine toIn 3 [(2, [0, 1, 2, 3, 4, 5, 6, 7, 8, 9, 10, 11, 14, 15, 16, 12, 13, 17, 18])] Try.func60 rfl (by kernel_rfl) (Nat.le_of_ble_eq_true rfl) (by decide) rfl rfl hF ?_
  conv => whnf
  refine CallVC.look (hpl _) rfl ?_
  rintro _ rfl
  conv => whnf
  refine ⟨by decide, ?_⟩
  conv => whnf
  refine ⟨by decide, ?_⟩
  conv => whnf
  refine ⟨by decide, ?_⟩
  conv => whnf
  (refine ⟨Nat.le_of_ble_eq_true rfl, ?_⟩; conv => whnf)
  refine ⟨Al, alD, R 14 ++ [a], (by rw [List.map_append]; rfl), fun _ => rfl, by simp only [List.length_append, List.length_cons, List.length_nil]; omega, by simp only [List.length_append, List.length_cons, List.length_nil]; omega, rfl, ?_⟩
  conv => whnf
  refine ⟨by decide, ?_⟩
  conv => whnf
  refine ⟨[(17, 53)], [], .tup [], WH now (upd R 14 (R 14 ++ [a])) T M c X L, 52, ?_, hK⟩
  repeat' (first | exact trivial | exact .inl (DLe.refl _) | exact .inl (DLe.nil _ _) | (refine .inr ⟨rfl, _, ?_, rfl⟩; rfl) | exact rfl | exact Nat.zero_le _ | constructor)

theorem lay_15 (F : List (Nat × D)) (now : Int) (R : Nat → List Al) (T : List Al) (M : List ME) (c : Nat) (X : Int) (L : List Al) (a : Al) {K : D → St → Prop} (hr : plr now a.at_ = 0) (hp : plp now a.at_ = 15)
    (hF : F.all (fun p => cutOk 6 3 p.2) = true) (hn : 0 ≤ now ∧ now ≤ 1099511627776) (ht : 0 ≤ a.at_ ∧ a.at_ ≤ 1099511627776) (hl : (R 15).length ≤ 1000)
    (hK : K (.tup []) ⟨F, WH now (upd R 15 (R 15 ++ [a])) T M c X L, 52, (upto 3 0, 3)⟩) : CallVC Try.prog false 60 [.loc 0 0, .agg (alD a)] ⟨F, WH now R T M c X L, 52, (upto 3 0, 3)⟩ K := by
  have hpl := fun X => place_rd now a.at_ X hn ht
  rw [hr, hp] at hpl
  refine toIn 3 [(2, [0, 1, 2, 3, 4, 5, 6, 7, 8, 9, 10, 11, 14, 15, 16, 12, 13, 17, 18])] Try.func60 rfl (by kernel_rfl) (Nat.le_of_ble_eq_true rfl) (by decide) rfl rfl hF ?_
  conv => whnf
  refine CallVC.look (hpl _) rfl ?_
  rintro _ rfl
  conv => whnf
  refine ⟨by decide, ?_⟩
  conv => whnf
  refine ⟨by decide, ?_⟩
  conv => whnf
  refine ⟨by decide, ?_⟩
  conv => whnf
  (refine ⟨Nat.le_of_ble_eq_true rfl, ?_⟩; conv => whnf)
  refine ⟨Al, alD, R 15 ++ [a], (by rw [List.map_append]; rfl), fun _ => rfl, by simp only [List.length_append, List.length_cons, List.length_nil]; omega, by simp only [List.length_append, List.length_cons, List.length_nil]; omega, rfl, ?_⟩
  conv => whnf
  refine ⟨by decide, ?_⟩
  conv => whnf
  refine ⟨[(18, 53)], [], .tup [], WH now (upd R 15 (R 15 ++ [a])) T M c X L, 52, ?_, hK⟩
  repeat' (first | exact trivial | exact .inl (DLe.refl _) | exact .inl (DLe.nil _ _) | (refine .inr ⟨rfl, _, ?_, rfl⟩; rfl) | exact rfl | exact Nat.zero_le _ | constructor)

theorem lay_16 (F : List (Nat × D)) (now : Int) (R : Nat → List Al) (T : List Al) (M : List ME) (c : Nat) (X : Int) (L : List Al) (a : Al) {K : D → St → Prop} (hr : plr now a.at_ = 1) (hp : plp now a.at_ = 0)
    (hF : F.all (fun p => cutOk 6 3 p.2) = true) (hn : 0 ≤ now ∧ now ≤ 1099511627776) (ht : 0 ≤ a.at_ ∧ a.at_ ≤ 1099511627776) (hl : (R 16).length ≤ 1000)
    (hK : K (.tup []) ⟨F, WH now (upd R 16 (R 16 ++ [a])) T M c X L, 52, (upto 3 0, 3)⟩) : CallVC Try.prog false 60 [.loc 0 0, .agg (alD a)] ⟨F, WH now R T M c X L, 52, (upto 3 0, 3)⟩ K := by
  have hpl := fun X => place_rd now a.at_ X hn ht
  rw [hr, hp] at hpl
  refine toIn 3 [(2, [0, 1, 2, 3, 4, 5, 6, 7, 8, 9, 10, 11, 14, 15, 16, 12, 13, 17, 18])] Try.func60 rfl (by kernel_rfl) (Nat.le_of_ble_eq_true rfl) (by decide) rfl rfl hF ?_
  conv => whnf
  refine CallVC.look (hpl _) rfl ?_
  rintro _ rfl
  conv => whnf
  refine ⟨by decide, ?_⟩
  conv => whnf
  refine ⟨by decide, ?_⟩
  conv => whnf
  refine ⟨by decide, ?_⟩
  conv => whnf
  (refine ⟨Nat.le_of_ble_eq_true rfl, ?_⟩; conv => whnf)
  refine ⟨Al, alD, R 16 ++ [a], (by rw [List.map_append]; rfl), fun _ => rfl, by simp only [List.length_append, List.length_cons, List.length_nil]; omega, by simp only [List.length_append, List.length_cons, List.length_nil]; omega, rfl, ?_⟩
  conv => whnf
  refine ⟨by decide, ?_⟩
  conv => whnf
  refine ⟨[(19, 53)], [], .tup [], WH now (upd R 16 (R 16 ++ [a])) T M c X L, 52, ?_, hK⟩
  repeat' (first | exact trivial | exact .inl (DLe.refl _) | exact .inl (DLe.nil _ _) | (refine .inr ⟨rfl, _, ?_, rfl⟩; rfl) | exact rfl | exact Nat.zero_le _ | constructor)

theorem lay_17 (F : List (Nat × D)) (now : Int) (R : Nat → List Al) (T : List Al) (M : List ME) (c : Nat) (X : Int) (L : List Al) (a : Al) {K : D → St → Prop} (hr : plr now a.at_ = 1) (hp : plp now a.at_ = 1)
    (hF : F.all (fun p => cutOk 6 3 p.2) = true) (hn : 0 ≤ now ∧ now ≤ 1099511627776) (ht : 0 ≤ a.at_ ∧ a.at_ ≤ 1099511627776) (hl : (R 17).length ≤ 1000)
    (hK : K (.tup []) ⟨F, WH now (upd R 17 (R 17 ++ [a])) T M c X L, 52, (upto 3 0, 3)⟩) : CallVC Try.prog false 60 [.loc 0 0, .agg (alD a)] ⟨F, WH now R T M c X L, 52, (upto 3 0, 3)⟩ K := by
  have hpl := fun X => place_rd now a.at_ X hn ht
  rw [hr, hp] at hpl
  refine toIn 3 [(2, [0, 1, 2, 3, 4, 5, 6, 7, 8, 9, 10, 11, 14, 15, 16, 12, 13, 17, 18])] Try.func60 rfl (by kernel_rfl) (Nat.le_of_ble_eq_true rfl) (by decide) rfl rfl hF ?_
  conv => whnf
  refine CallVC.look (hpl _) rfl ?_
  rintro _ rfl
  conv => whnf
  refine ⟨by decide, ?_⟩
  conv => whnf
  refine ⟨by decide, ?_⟩
  conv => whnf
  refine ⟨by decide, ?_⟩
  conv => whnf
  (refine ⟨Nat.le_of_ble_eq_true rfl, ?_⟩; conv => whnf)
  refine ⟨Al, alD, R 17 ++ [a], (by rw [List.map_append]; rfl), fun _ => rfl, by simp only [List.length_append, List.length_cons, List.length_nil]; omega, by simp only [List.length_append, List.length_cons, List.length_nil]; omega, rfl, ?_⟩
  conv => whnf
  refine ⟨by decide, ?_⟩
  conv => whnf
  refine ⟨[(20, 53)], [], .tup [], WH now (upd R 17 (R 17 ++ [a])) T M c X L, 52, ?_, hK⟩
  repeat' (first | exact trivial | exact .inl (DLe.refl _) | exact .inl (DLe.nil _ _) | (refine .inr ⟨rfl, _, ?_, rfl⟩; rfl) | exact rfl | exact Nat.zero_le _ | constructor)

theorem lay_18 (F : List (Nat × D)) (now : Int) (R : Nat → List Al) (T : List Al) (M : List ME) (c : Nat) (X : Int) (L : List Al) (a : Al) {K : D → St → Prop} (hr : plr now a.at_ = 1) (hp : plp now a.at_ = 2)
    (hF : F.all (fun p => cutOk 6 3 p.2) = true) (hn : 0 ≤ now ∧ now ≤ 1099511627776) (ht : 0 ≤ a.at_ ∧ a.at_ ≤ 1099511627776) (hl : (R 18).length ≤ 1000)
    (hK : K (.tup []) ⟨F, WH now (upd R 18 (R 18 ++ [a])) T M c X L, 52, (upto 3 0, 3)⟩) : CallVC Try.prog false 60 [.loc 0 0, .agg (alD a)] ⟨F, WH now R T M c X L, 52, (upto 3 0, 3)⟩ K := by
  have hpl := fun X => place_rd now a.at_ X hn ht
  rw [hr, hp] at hpl
  refine toIn 3 [(2, [0, 1, 2, 3, 4, 5, 6, 7, 8, 9, 10, 11, 14, 15, 16, 12, 13, 17, 18])] Try.func60 rfl (by kernel_rfl) (Nat.le_of_ble_eq_true rfl) (by decide) rfl rfl hF ?_
  conv => whnf
  refine CallVC.look (hpl _) rfl ?_
  rintro _ rfl
  conv => whnf
  refine ⟨by decide, ?_⟩
  conv => whnf
  refine ⟨by decide, ?_⟩
  conv => whnf
  refine ⟨by decide, ?_⟩
  conv => whnf
  (refine ⟨Nat.le_of_ble_eq_true rfl, ?_⟩; conv => whnf)
  refine ⟨Al, alD, R 18 ++ [a], (by rw [List.map_append]; rfl), fun _ => rfl, by simp only [List.length_append, List.length_cons, List.length_nil]; omega, by simp only [List.length_append, List.length_cons, List.length_nil]; omega, rfl, ?_⟩
  conv => whnf
  refine ⟨by decide, ?_⟩
  conv => whnf
  refine ⟨[(21, 53)], [], .tup [], WH now (upd R 18 (R 18 ++ [a])) T M c X L, 52, ?_, hK⟩
  repeat' (first | exact trivial | exact .inl (DLe.refl _) | exact .inl (DLe.nil _ _) | (refine .inr ⟨rfl, _, ?_, rfl⟩; rfl) | exact rfl | exact Nat.zero_le _ | constructor)

theorem lay_19 (F : List (Nat × D)) (now : Int) (R : Nat → List Al) (T : List Al) (M : List ME) (c : Nat) (X : Int) (L : List Al) (a : Al) {K : D → St → Prop} (hr : plr now a.at_ = 1) (hp : plp now a.at_ = 3)
    (hF : F.all (fun p => cutOk 6 3 p.2) = true) (hn : 0 ≤ now ∧ now ≤ 1099511627776) (ht : 0 ≤ a.at_ ∧ a.at_ ≤ 1099511627776) (hl : (R 19).length ≤ 1000)
    (hK : K (.tup []) ⟨F, WH now (upd R 19 (R 19 ++ [a])) T M c X L, 52, (upto 3 0, 3)⟩) : CallVC Try.prog false 60 [.loc 0 0, .agg (alD a)] ⟨F, WH now R T M c X L, 52, (upto 3 0, 3)⟩ K := by
  have hpl := fun X => place_rd now a.at_ X hn ht
  rw [hr, hp] at hpl
  refine toIn 3 [(2, [0, 1, 2, 3, 4, 5, 6, 7, 8, 9, 10, 11, 14, 15, 16, 12, 13, 17, 18])] Try.func60 rfl (by kernel_rfl) (Nat.le_of_ble_eq_true rfl) (by decide) rfl rfl hF ?_
  conv => whnf
  refine CallVC.look (hpl _) rfl ?_
  rintro _ rfl
  conv => whnf
  refine ⟨by decide, ?_⟩
  conv => whnf
  refine ⟨by decide, ?_⟩
  conv => whnf
  refine ⟨by decide, ?_⟩
  conv => whnf
  (refine ⟨Nat.le_of_ble_eq_true rfl, ?_⟩; conv => whnf)
  refine ⟨Al, alD, R 19 ++ [a], (by rw [List.map_append]; rfl), fun _ => rfl, by simp only [List.length_append, List.length_cons, List.length_nil]; omega, by simp only [List.length_append, List.length_cons, List.length_nil]; omega, rfl, ?_⟩
  conv => whnf
  refine ⟨by decide, ?_⟩
  conv => whnf
  refine ⟨[(22, 53)], [], .tup [], WH now (upd R 19 (R 19 ++ [a])) T M c X L, 52, ?_, hK⟩
  repeat' (first | exact trivial | exact .inl (DLe.refl _) | exact .inl (DLe.nil _ _) | (refine .inr ⟨rfl, _, ?_, rfl⟩; rfl) | exact rfl | exact Nat.zero_le _ | constructor)

theorem lay_20 (F : List (Nat × D)) (now : Int) (R : Nat → List Al) (T : List Al) (M : List ME) (c : Nat) (X : Int) (L : List Al) (a : Al) {K : D → St → Prop} (hr : plr now a.at_ = 1) (hp : plp now a.at_ = 4)
    (hF : F.all (fun p => cutOk 6 3 p.2) = true) (hn : 0 ≤ now ∧ now ≤ 1099511627776) (ht : 0 ≤ a.at_ ∧ a.at_ ≤ 1099511627776) (hl : (R 20).length ≤ 1000)
    (hK : K (.tup []) ⟨F, WH now (upd R 20 (R 20 ++ [a])) T M c X L, 52, (upto 3 0, 3)⟩) : CallVC Try.prog false 60 [.loc 0 0, .agg (alD a)] ⟨F, WH now R T M c X L, 52, (upto 3 0, 3)⟩ K := by
  have hpl := fun X => place_rd now a.at_ X hn ht
  rw [hr, hp] at hpl
  refine toIn 3 [(2, [0, 1, 2, 3, 4, 5, 6, 7, 8, 9, 10, 11, 14, 15, 16, 12, 13, 17, 18])] Try.func60 rfl (by kernel_rfl) (Nat.le_of_ble_eq_true rfl) (by decide) rfl rfl hF ?_
  conv => whnf
  refine CallVC.look (hpl _) rfl ?_
  rintro _ rfl
  conv => whnf
  refine ⟨by decide, ?_⟩
  conv => whnf
  refine ⟨by decide, ?_⟩
  conv => whnf
  refine ⟨by decide, ?_⟩
  conv => whnf
  (refine ⟨Nat.le_of_ble_eq_true rfl, ?_⟩; conv => whnf)
  refine ⟨Al, alD, R 20 ++ [a], (by rw [List.map_append]; rfl), fun _ => rfl, by simp only [List.length_append, List.length_cons, List.length_nil]; omega, by simp only [List.length_append, List.length_cons, List.length_nil]; omega, rfl, ?_⟩
  conv => whnf
  refine ⟨by decide, ?_⟩
  conv => whnf
  refine ⟨[(23, 53)], [], .tup [], WH now (upd R 20 (R 20 ++ [a])) T M c X L, 52, ?_, hK⟩
  repeat' (first | exact trivial | exact .inl (DLe.refl _) | exact .inl (DLe.nil _ _) | (refine .inr ⟨rfl, _, ?_, rfl⟩; rfl) | exact rfl | exact Nat.zero_le _ | constructor)

theorem lay_21 (F : List (Nat × D)) (now : Int) (R : Nat → List Al) (T : List Al) (M : List ME) (c : Nat) (X : Int) (L : List Al) (a : Al) {K : D → St → Prop} (hr : plr now a.at_ = 1) (hp : plp now a.at_ = 5)
    (hF : F.all (fun p => cutOk 6 3 p.2) = true) (hn : 0 ≤ now ∧ now ≤ 1099511627776) (ht : 0 ≤ a.at_ ∧ a.at_ ≤ 1099511627776) (hl : (R 21).length ≤ 1000)
    (hK : K (.tup []) ⟨F, WH now (upd R 21 (R 21 ++ [a])) T M c X L, 52, (upto 3 0, 3)⟩) : CallVC Try.prog false 60 [.loc 0 0, .agg (alD a)] ⟨F, WH now R T M c X L, 52, (upto 3 0, 3)⟩ K := by
  have hpl := fun X => place_rd now a.at_ X hn ht
  rw [hr, hp] at hpl
  refine toIn 3 [(2, [0, 1, 2, 3, 4, 5, 6, 7, 8, 9, 10, 11, 14, 15, 16, 12, 13, 17, 18])] Try.func60 rfl (by kernel_rfl) (Nat.le_of_ble_eq_true rfl) (by decide) rfl rfl hF ?_
  conv => whnf
  refine CallVC.look (hpl _) rfl ?_
  rintro _ rfl
  conv => whnf
  refine ⟨by decide, ?_⟩
  conv => whnf
  refine ⟨by decide, ?_⟩
  conv => whnf
  refine ⟨by decide, ?_⟩
  conv => whnf
  (refine ⟨Nat.le_of_ble_eq_true rfl, ?_⟩; conv => whnf)
  refine ⟨Al, alD, R 21 ++ [a], (by rw [List.map_append]; rfl), fun _ => rfl, by simp only [List.length_append, List.length_cons, List.length_nil]; omega, by simp only [List.length_append, List.length_cons, List.length_nil]; omega, rfl, ?_⟩
  conv => whnf
  refine ⟨by decide, ?_⟩
  conv => whnf
  refine ⟨[(24, 53)], [], .tup [], WH now (upd R 21 (R 21 ++ [a])) T M c X L, 52, ?_, hK⟩
  repeat' (first | exact trivial | exact .inl (DLe.refl _) | exact .inl (DLe.nil _ _) | (refine .inr ⟨rfl, _, ?_, rfl⟩; rfl) | exact rfl | exact Nat.zero_le _ | constructor)

theorem lay_22 (F : List (Nat × D)) (now : Int) (R : Nat → List Al) (T : List Al) (M : List ME) (c : Nat) (X : Int) (L : List Al) (a : Al) {K : D → St → Prop} (hr : plr now a.at_ = 1) (hp : plp now a.at_ = 6)
    (hF : F.all (fun p => cutOk 6 3 p.2) = true) (hn : 0 ≤ now ∧ now ≤ 1099511627776) (ht : 0 ≤ a.at_ ∧ a.at_ ≤ 1099511627776) (hl : (R 22).length ≤ 1000)
    (hK : K (.tup []) ⟨F, WH now (upd R 22 (R 22 ++ [a])) T M c X L, 52, (upto 3 0, 3)⟩) : CallVC Try.prog false 60 [.loc 0 0, .agg (alD a)] ⟨F, WH now R T M c X L, 52, (upto 3 0, 3)⟩ K := by
  have hpl := fun X => place_rd now a.at_ X hn ht
  rw [hr, hp] at hpl
  refine toIn 3 [(2, [0, 1, 2, 3, 4, 5, 6, 7, 8, 9, 10, 11, 14, 15, 16, 12, 13, 17, 18])] Try.func60 rfl (by kernel_rfl) (Nat.le_of_ble_eq_true rfl) (by decide) rfl rfl hF ?_
  conv => whnf
  refine CallVC.look (hpl _) rfl ?_
  rintro _ rfl
  conv => whnf
  refine ⟨by decide, ?_⟩
  conv => whnf
  refine ⟨by decide, ?_⟩
  conv => whnf
  refine ⟨by decide, ?_⟩
  conv => whnf
  (refine ⟨Nat.le_of_ble_eq_true rfl, ?_⟩; conv => whnf)
  refine ⟨Al, alD, R 22 ++ [a], (by rw [List.map_append]; rfl), fun _ => rfl, by simp only [List.length_append, List.length_cons, List.length_nil]; omega, by simp only [List.length_append, List.length_cons, List.length_nil]; omega, rfl, ?_⟩
  conv => whnf
  refine ⟨by decide, ?_⟩
  conv => whnf
  refine ⟨[(25, 53)], [], .tup [], WH now (upd R 22 (R 22 ++ [a])) T M c X L, 52, ?_, hK⟩
  repeat' (first | exact trivial | exact .inl (DLe.refl _) | exact .inl (DLe.nil _ _) | (refine .inr ⟨rfl, _, ?_, rfl⟩; rfl) | exact rfl | exact Nat.zero_le _ | constructor)

theorem lay_23 (F : List (Nat × D)) (now : Int) (R : Nat → List Al) (T : List Al) (M : List ME) (c : Nat) (X : Int) (L : List Al) (a : Al) {K : D → St → Prop} (hr : plr now a.at_ = 1) (hp : plp now a.at_ = 7)
    (hF : F.all (fun p => cutOk 6 3 p.2) = true) (hn : 0 ≤ now ∧ now ≤ 1099511627776) (ht : 0 ≤ a.at_ ∧ a.at_ ≤ 1099511627776) (hl : (R 23).length ≤ 1000)
    (hK : K (.tup []) ⟨F, WH now (upd R 23 (R 23 ++ [a])) T M c X L, 52, (upto 3 0, 3)⟩) : CallVC Try.prog false 60 [.loc 0 0, .agg (alD a)] ⟨F, WH now R T M c X L, 52, (upto 3 0, 3)⟩ K := by
  have hpl := fun X => place_rd now a.at_ X hn ht
  rw [hr, hp] at hpl
  refine toIn 3 [(2, [0, 1, 2, 3, 4, 5, 6, 7, 8, 9, 10, 11, 14, 15, 16, 12, 13, 17, 18])] Try.func60 rfl (by kernel_rfl) (Nat.le_of_ble_eq_true rfl) (by decide) rfl rfl hF ?_
  conv => whnf
  refine CallVC.look (hpl _) rfl ?_
  rintro _ rfl
  conv => whnf
  refine ⟨by decide, ?_⟩
  conv => whnf
  refine ⟨by decide, ?_⟩
  conv => whnf
  refine ⟨by decide, ?_⟩
  conv => whnf
  (refine ⟨Nat.le_of_ble_eq_true rfl, ?_⟩; conv => whnf)
  refine ⟨Al, alD, R 23 ++ [a], (by rw [List.map_append]; rfl), fun _ => rfl, by simp only [List.length_append, List.length_cons, List.length_nil]; omega, by simp only [List.length_append, List.length_cons, List.length_nil]; omega, rfl, ?_⟩
  conv => whnf
  refine ⟨by decide, ?_⟩
  conv => whnf
  refine ⟨[(26, 53)], [], .tup [], WH now (upd R 23 (R 23 ++ [a])) T M c X L, 52, ?_, hK⟩
  repeat' (first | exact trivial | exact .inl (DLe.refl _) | exact .inl (DLe.nil _ _) | (refine .inr ⟨rfl, _, ?_, rfl⟩; rfl) | exact rfl | exact Nat.zero_le _ | constructor)
end Go.Proofs.Ytcbpdjikdohegaa.V
