/-
  An alarm is laid on the wheel, place by place. Conditions: ticks not too great, the row not too long.
  An alarm is laid on the wheel, place by place. Conditions: ticks not too great, the row not too long.
-/
import Derived.Test.YtcbpdjikdohegaaGreatK2
namespace Go.Proofs.YtcbpdjikdohegaaGreat.V
open Go.RowKit
attribute [local irreducible] Fn FnN OpVC Ob

theorem lay_0 (F : List (Nat × D)) (now : Int) (R : Nat → List Al) (T U : List Al) (M : List ME) (c : Nat) (o2 : LO) (G : List Nat × Nat) (a : Al) {K : D → St → Prop} (hr : plr now a.at_ = 0) (hp : plp now a.at_ = 0)
    (hF : F.all (fun p => cutOk 6 5 p.2) = true) (hG : Nat.ble G.2 5 = true) (ho : ∀ r z n, LOLe r z n o2 o2) (hn : 0 ≤ now ∧ now ≤ 1099511627776) (ht : 0 ≤ a.at_ ∧ a.at_ ≤ 1099511627776) (hl : (R 0).length ≤ 1000)
    (hK : K (.tup []) ⟨F, WH now (upd R 0 (R 0 ++ [a])) T U M c o2, 53, G⟩) : CallVC Tryz.prog false 62 [.loc 0 0, .agg (alD a)] ⟨F, WH now R T U M c o2, 53, G⟩ K := by
  have hpl := fun X => place_rd now a.at_ X hn ht
  rw [hr, hp] at hpl
  refine toIn 5 [(2, [0, 1, 2, 3, 4, 5, 6, 7, 8, 9, 10, 11, 14, 15, 16, 12, 13, 17, 18])] Tryz.func62 rfl (by kernel_rfl) (Nat.le_of_ble_eq_true rfl) (by decide) hG rfl hF ?_
  conv => whnf
  refine CallVC.look (hpl _) rfl ?_
  rintro _ rfl
  conv => whnf
  refine ⟨by decide, ?_⟩
  conv => whnf
  refine ⟨by decide, ?_⟩
  conv => whnf
  refine ⟨by decide, ?_⟩
  conv => whnf
  (refine ⟨Nat.le_of_ble_eq_true rfl, ?_⟩; conv => whnf)
  refine ⟨Al, alD, R 0 ++ [a], (by rw [List.map_append]; rfl), fun _ => rfl, by simp only [List.length_append, List.length_cons, List.length_nil]; omega, by simp only [List.length_append, List.length_cons, List.length_nil]; omega, rfl, ?_⟩
  conv => whnf
  refine ⟨by decide, ?_⟩
  conv => whnf
  refine ⟨[(5, 54)], [], .tup [], WH now (upd R 0 (R 0 ++ [a])) T U M c o2, 53, ?_, hK⟩
  repeat' (first | exact trivial | exact .inl (DLe.refl _) | exact .inl (DLe.nil _ _) | (refine .inr ⟨rfl, _, ?_, rfl⟩; rfl) | exact rfl | exact Nat.zero_le _ | constructor)
  exact ho _ _ _

theorem lay_1 (F : List (Nat × D)) (now : Int) (R : Nat → List Al) (T U : List Al) (M : List ME) (c : Nat) (o2 : LO) (G : List Nat × Nat) (a : Al) {K : D → St → Prop} (hr : plr now a.at_ = 0) (hp : plp now a.at_ = 1)
    (hF : F.all (fun p => cutOk 6 5 p.2) = true) (hG : Nat.ble G.2 5 = true) (ho : ∀ r z n, LOLe r z n o2 o2) (hn : 0 ≤ now ∧ now ≤ 1099511627776) (ht : 0 ≤ a.at_ ∧ a.at_ ≤ 1099511627776) (hl : (R 1).length ≤ 1000)
    (hK : K (.tup []) ⟨F, WH now (upd R 1 (R 1 ++ [a])) T U M c o2, 53, G⟩) : CallVC Tryz.prog false 62 [.loc 0 0, .agg (alD a)] ⟨F, WH now R T U M c o2, 53, G⟩ K := by
  have hpl := fun X => place_rd now a.at_ X hn ht
  rw [hr, hp] at hpl
  refine toIn 5 [(2, [0, 1, 2, 3, 4, 5, 6, 7, 8, 9, 10, 11, 14, 15, 16, 12, 13, 17, 18])] Tryz.func62 rfl (by kernel_rfl) (Nat.le_of_ble_eq_true rfl) (by decide) hG rfl hF ?_
  conv => whnf
  refine CallVC.look (hpl _) rfl ?_
  rintro _ rfl
  conv => whnf
  refine ⟨by decide, ?_⟩
  conv => whnf
  refine ⟨by decide, ?_⟩
  conv => whnf
  refine ⟨by decide, ?_⟩
  conv => whnf
  (refine ⟨Nat.le_of_ble_eq_true rfl, ?_⟩; conv => whnf)
  refine ⟨Al, alD, R 1 ++ [a], (by rw [List.map_append]; rfl), fun _ => rfl, by simp only [List.length_append, List.length_cons, List.length_nil]; omega, by simp only [List.length_append, List.length_cons, List.length_nil]; omega, rfl, ?_⟩
  conv => whnf
  refine ⟨by decide, ?_⟩
  conv => whnf
  refine ⟨[(6, 54)], [], .tup [], WH now (upd R 1 (R 1 ++ [a])) T U M c o2, 53, ?_, hK⟩
  repeat' (first | exact trivial | exact .inl (DLe.refl _) | exact .inl (DLe.nil _ _) | (refine .inr ⟨rfl, _, ?_, rfl⟩; rfl) | exact rfl | exact Nat.zero_le _ | constructor)
  exact ho _ _ _

theorem lay_2 (F : List (Nat × D)) (now : Int) (R : Nat → List Al) (T U : List Al) (M : List ME) (c : Nat) (o2 : LO) (G : List Nat × Nat) (a : Al) {K : D → St → Prop} (hr : plr now a.at_ = 0) (hp : plp now a.at_ = 2)
    (hF : F.all (fun p => cutOk 6 5 p.2) = true) (hG : Nat.ble G.2 5 = true) (ho : ∀ r z n, LOLe r z n o2 o2) (hn : 0 ≤ now ∧ now ≤ 1099511627776) (ht : 0 ≤ a.at_ ∧ a.at_ ≤ 1099511627776) (hl : (R 2).length ≤ 1000)
    (hK : K (.tup []) ⟨F, WH now (upd R 2 (R 2 ++ [a])) T U M c o2, 53, G⟩) : CallVC Tryz.prog false 62 [.loc 0 0, .agg (alD a)] ⟨F, WH now R T U M c o2, 53, G⟩ K := by
  have hpl := fun X => place_rd now a.at_ X hn ht
  rw [hr, hp] at hpl
  refine toIn 5 [(2, [0, 1, 2, 3, 4, 5, 6, 7, 8, 9, 10, 11, 14, 15, 16, 12, 13, 17, 18])] Tryz.func62 rfl (by kernel_rfl) (Nat.le_of_ble_eq_true rfl) (by decide) hG rfl hF ?_
  conv => whnf
  refine CallVC.look (hpl _) rfl ?_
  rintro _ rfl
  conv => whnf
  refine ⟨by decide, ?_⟩
  conv => whnf
  refine ⟨by decide, ?_⟩
  conv => whnf
  refine ⟨by decide, ?_⟩
  conv => whnf
  (refine ⟨Nat.le_of_ble_eq_true rfl, ?_⟩; conv => whnf)
  refine ⟨Al, alD, R 2 ++ [a], (by rw [List.map_append]; rfl), fun _ => rfl, by simp only [List.length_append, List.length_cons, List.length_nil]; omega, by simp only [List.length_append, List.length_cons, List.length_nil]; omega, rfl, ?_⟩
  conv => whnf
  refine ⟨by decide, ?_⟩
  conv => whnf
  refine ⟨[(7, 54)], [], .tup [], WH now (upd R 2 (R 2 ++ [a])) T U M c o2, 53, ?_, hK⟩
  repeat' (first | exact trivial | exact .inl (DLe.refl _) | exact .inl (DLe.nil _ _) | (refine .inr ⟨rfl, _, ?_, rfl⟩; rfl) | exact rfl | exact Nat.zero_le _ | constructor)
  exact ho _ _ _

theorem lay_3 (F : List (Nat × D)) (now : Int) (R : Nat → List Al) (T U : List Al) (M : List ME) (c : Nat) (o2 : LO) (G : List Nat × Nat) (a : Al) {K : D → St → Prop} (hr : plr now a.at_ = 0) (hp : plp now a.at_ = 3)
    (hF : F.all (fun p => cutOk 6 5 p.2) = true) (hG : Nat.ble G.2 5 = true) (ho : ∀ r z n, LOLe r z n o2 o2) (hn : 0 ≤ now ∧ now ≤ 1099511627776) (ht : 0 ≤ a.at_ ∧ a.at_ ≤ 1099511627776) (hl : (R 3).length ≤ 1000)
    (hK : K (.tup []) ⟨F, WH now (upd R 3 (R 3 ++ [a])) T U M c o2, 53, G⟩) : CallVC Tryz.prog false 62 [.loc 0 0, .agg (alD a)] ⟨F, WH now R T U M c o2, 53, G⟩ K := by
  have hpl := fun X => place_rd now a.at_ X hn ht
  rw [hr, hp] at hpl
  refine toIn 5 [(2, [0, 1, 2, 3, 4, 5, 6, 7, 8, 9, 10, 11, 14, 15, 16, 12, 13, 17, 18])] Tryz.func62 rfl (by kernel_rfl) (Nat.le_of_ble_eq_true rfl) (by decide) hG rfl hF ?_
  conv => whnf
  refine CallVC.look (hpl _) rfl ?_
  rintro _ rfl
  conv => whnf
  refine ⟨by decide, ?_⟩
  conv => whnf
  refine ⟨by decide, ?_⟩
  conv => whnf
  refine ⟨by decide, ?_⟩
  conv => whnf
  (refine ⟨Nat.le_of_ble_eq_true rfl, ?_⟩; conv => whnf)
  refine ⟨Al, alD, R 3 ++ [a], (by rw [List.map_append]; rfl), fun _ => rfl, by simp only [List.length_append, List.length_cons, List.length_nil]; omega, by simp only [List.length_append, List.length_cons, List.length_nil]; omega, rfl, ?_⟩
  conv => whnf
  refine ⟨by decide, ?_⟩
  conv => whnf
  refine ⟨[(8, 54)], [], .tup [], WH now (upd R 3 (R 3 ++ [a])) T U M c o2, 53, ?_, hK⟩
  repeat' (first | exact trivial | exact .inl (DLe.refl _) | exact .inl (DLe.nil _ _) | (refine .inr ⟨rfl, _, ?_, rfl⟩; rfl) | exact rfl | exact Nat.zero_le _ | constructor)
  exact ho _ _ _

theorem lay_4 (F : List (Nat × D)) (now : Int) (R : Nat → List Al) (T U : List Al) (M : List ME) (c : Nat) (o2 : LO) (G : List Nat × Nat) (a : Al) {K : D → St → Prop} (hr : plr now a.at_ = 0) (hp : plp now a.at_ = 4)
    (hF : F.all (fun p => cutOk 6 5 p.2) = true) (hG : Nat.ble G.2 5 = true) (ho : ∀ r z n, LOLe r z n o2 o2) (hn : 0 ≤ now ∧ now ≤ 1099511627776) (ht : 0 ≤ a.at_ ∧ a.at_ ≤ 1099511627776) (hl : (R 4).length ≤ 1000)
    (hK : K (.tup []) ⟨F, WH now (upd R 4 (R 4 ++ [a])) T U M c o2, 53, G⟩) : CallVC Tryz.prog false 62 [.loc 0 0, .agg (alD a)] ⟨F, WH now R T U M c o2, 53, G⟩ K := by
  have hpl := fun X => place_rd now a.at_ X hn ht
  rw [hr, hp] at hpl
  refine toIn 5 [(2, [0, 1, 2, 3, 4, 5, 6, 7, 8, 9, 10, 11, 14, 15, 16, 12, 13, 17, 18])] Tryz.func62 rfl (by kernel_rfl) (Nat.le_of_ble_eq_true rfl) (by decide) hG rfl hF ?_
  conv => whnf
  refine CallVC.look (hpl _) rfl ?_
  rintro _ rfl
  conv => whnf
  refine ⟨by decide, ?_⟩
  conv => whnf
  refine ⟨by decide, ?_⟩
  conv => whnf
  refine ⟨by decide, ?_⟩
  conv => whnf
  (refine ⟨Nat.le_of_ble_eq_true rfl, ?_⟩; conv => whnf)
  refine ⟨Al, alD, R 4 ++ [a], (by rw [List.map_append]; rfl), fun _ => rfl, by simp only [List.length_append, List.length_cons, List.length_nil]; omega, by simp only [List.length_append, List.length_cons, List.length_nil]; omega, rfl, ?_⟩
  conv => whnf
  refine ⟨by decide, ?_⟩
  conv => whnf
  refine ⟨[(9, 54)], [], .tup [], WH now (upd R 4 (R 4 ++ [a])) T U M c o2, 53, ?_, hK⟩
  repeat' (first | exact trivial | exact .inl (DLe.refl _) | exact .inl (DLe.nil _ _) | (refine .inr ⟨rfl, _, ?_, rfl⟩; rfl) | exact rfl | exact Nat.zero_le _ | constructor)
  exact ho _ _ _

theorem lay_5 (F : List (Nat × D)) (now : Int) (R : Nat → List Al) (T U : List Al) (M : List ME) (c : Nat) (o2 : LO) (G : List Nat × Nat) (a : Al) {K : D → St → Prop} (hr : plr now a.at_ = 0) (hp : plp now a.at_ = 5)
    (hF : F.all (fun p => cutOk 6 5 p.2) = true) (hG : Nat.ble G.2 5 = true) (ho : ∀ r z n, LOLe r z n o2 o2) (hn : 0 ≤ now ∧ now ≤ 1099511627776) (ht : 0 ≤ a.at_ ∧ a.at_ ≤ 1099511627776) (hl : (R 5).length ≤ 1000)
    (hK : K (.tup []) ⟨F, WH now (upd R 5 (R 5 ++ [a])) T U M c o2, 53, G⟩) : CallVC Tryz.prog false 62 [.loc 0 0, .agg (alD a)] ⟨F, WH now R T U M c o2, 53, G⟩ K := by
  have hpl := fun X => place_rd now a.at_ X hn ht
  rw [hr, hp] at hpl
  refine toIn 5 [(2, [0, 1, 2, 3, 4, 5, 6, 7, 8, 9, 10, 11, 14, 15, 16, 12, 13, 17, 18])] Tryz.func62 rfl (by kernel_rfl) (Nat.le_of_ble_eq_true rfl) (by decide) hG rfl hF ?_
  conv => whnf
  refine CallVC.look (hpl _) rfl ?_
  rintro _ rfl
  conv => whnf
  refine ⟨by decide, ?_⟩
  conv => whnf
  refine ⟨by decide, ?_⟩
  conv => whnf
  refine ⟨by decide, ?_⟩
  conv => whnf
  (refine ⟨Nat.le_of_ble_eq_true rfl, ?_⟩; conv => whnf)
  refine ⟨Al, alD, R 5 ++ [a], (by rw [List.map_append]; rfl), fun _ => rfl, by simp only [List.length_append, List.length_cons, List.length_nil]; omega, by simp only [List.length_append, List.length_cons, List.length_nil]; omega, rfl, ?_⟩
  conv => whnf
  refine ⟨by decide, ?_⟩
  conv => whnf
  refine ⟨[(10, 54)], [], .tup [], WH now (upd R 5 (R 5 ++ [a])) T U M c o2, 53, ?_, hK⟩
  repeat' (first | exact trivial | exact .inl (DLe.refl _) | exact .inl (DLe.nil _ _) | (refine .inr ⟨rfl, _, ?_, rfl⟩; rfl) | exact rfl | exact Nat.zero_le _ | constructor)
  exact ho _ _ _

theorem lay_6 (F : List (Nat × D)) (now : Int) (R : Nat → List Al) (T U : List Al) (M : List ME) (c : Nat) (o2 : LO) (G : List Nat × Nat) (a : Al) {K : D → St → Prop} (hr : plr now a.at_ = 0) (hp : plp now a.at_ = 6)
    (hF : F.all (fun p => cutOk 6 5 p.2) = true) (hG : Nat.ble G.2 5 = true) (ho : ∀ r z n, LOLe r z n o2 o2) (hn : 0 ≤ now ∧ now ≤ 1099511627776) (ht : 0 ≤ a.at_ ∧ a.at_ ≤ 1099511627776) (hl : (R 6).length ≤ 1000)
    (hK : K (.tup []) ⟨F, WH now (upd R 6 (R 6 ++ [a])) T U M c o2, 53, G⟩) : CallVC Tryz.prog false 62 [.loc 0 0, .agg (alD a)] ⟨F, WH now R T U M c o2, 53, G⟩ K := by
  have hpl := fun X => place_rd now a.at_ X hn ht
  rw [hr, hp] at hpl
  refine toIn 5 [(2, [0, 1, 2, 3, 4, 5, 6, 7, 8, 9, 10, 11, 14, 15, 16, 12, 13, 17, 18])] Tryz.func62 rfl (by kernel_rfl) (Nat.le_of_ble_eq_true rfl) (by decide) hG rfl hF ?_
  conv => whnf
  refine CallVC.look (hpl _) rfl ?_
  rintro _ rfl
  conv => whnf
  refine ⟨by decide, ?_⟩
  conv => whnf
  refine ⟨by decide, ?_⟩
  conv => whnf
  refine ⟨by decide, ?_⟩
  conv => whnf
  (refine ⟨Nat.le_of_ble_eq_true rfl, ?_⟩; conv => whnf)
  refine ⟨Al, alD, R 6 ++ [a], (by rw [List.map_append]; rfl), fun _ => rfl, by simp only [List.length_append, List.length_cons, List.length_nil]; omega, by simp only [List.length_append, List.length_cons, List.length_nil]; omega, rfl, ?_⟩
  conv => whnf
  refine ⟨by decide, ?_⟩
  conv => whnf
  refine ⟨[(11, 54)], [], .tup [], WH now (upd R 6 (R 6 ++ [a])) T U M c o2, 53, ?_, hK⟩
  repeat' (first | exact trivial | exact .inl (DLe.refl _) | exact .inl (DLe.nil _ _) | (refine .inr ⟨rfl, _, ?_, rfl⟩; rfl) | exact rfl | exact Nat.zero_le _ | constructor)
  exact ho _ _ _

theorem lay_7 (F : List (Nat × D)) (now : Int) (R : Nat → List Al) (T U : List Al) (M : List ME) (c : Nat) (o2 : LO) (G : List Nat × Nat) (a : Al) {K : D → St → Prop} (hr : plr now a.at_ = 0) (hp : plp now a.at_ = 7)
    (hF : F.all (fun p => cutOk 6 5 p.2) = true) (hG : Nat.ble G.2 5 = true) (ho : ∀ r z n, LOLe r z n o2 o2) (hn : 0 ≤ now ∧ now ≤ 1099511627776) (ht : 0 ≤ a.at_ ∧ a.at_ ≤ 1099511627776) (hl : (R 7).length ≤ 1000)
    (hK : K (.tup []) ⟨F, WH now (upd R 7 (R 7 ++ [a])) T U M c o2, 53, G⟩) : CallVC Tryz.prog false 62 [.loc 0 0, .agg (alD a)] ⟨F, WH now R T U M c o2, 53, G⟩ K := by
  have hpl := fun X => place_rd now a.at_ X hn ht
  rw [hr, hp] at hpl
  refine toIn 5 [(2, [0, 1, 2, 3, 4, 5, 6, 7, 8, 9, 10, 11, 14, 15, 16, 12, 13, 17, 18])] Tryz.func62 rfl (by kernel_rfl) (Nat.le_of_ble_eq_true rfl) (by decide) hG rfl hF ?_
  conv => whnf
  refine CallVC.look (hpl _) rfl ?_
  rintro _ rfl
  conv => whnf
  refine ⟨by decide, ?_⟩
  conv => whnf
  refine ⟨by decide, ?_⟩
  conv => whnf
  refine ⟨by decide, ?_⟩
  conv => whnf
  (refine ⟨Nat.le_of_ble_eq_true rfl, ?_⟩; conv => whnf)
  refine ⟨Al, alD, R 7 ++ [a], (by rw [List.map_append]; rfl), fun _ => rfl, by simp only [List.length_append, List.length_cons, List.length_nil]; omega, by simp only [List.length_append, List.length_cons, List.length_nil]; omega, rfl, ?_⟩
  conv => whnf
  refine ⟨by decide, ?_⟩
  conv => whnf
  refine ⟨[(12, 54)], [], .tup [], WH now (upd R 7 (R 7 ++ [a])) T U M c o2, 53, ?_, hK⟩
  repeat' (first | exact trivial | exact .inl (DLe.refl _) | exact .inl (DLe.nil _ _) | (refine .inr ⟨rfl, _, ?_, rfl⟩; rfl) | exact rfl | exact Nat.zero_le _ | constructor)
  exact ho _ _ _

theorem lay_8 (F : List (Nat × D)) (now : Int) (R : Nat → List Al) (T U : List Al) (M : List ME) (c : Nat) (o2 : LO) (G : List Nat × Nat) (a : Al) {K : D → St → Prop} (hr : plr now a.at_ = 0) (hp : plp now a.at_ = 8)
    (hF : F.all (fun p => cutOk 6 5 p.2) = true) (hG : Nat.ble G.2 5 = true) (ho : ∀ r z n, LOLe r z n o2 o2) (hn : 0 ≤ now ∧ now ≤ 1099511627776) (ht : 0 ≤ a.at_ ∧ a.at_ ≤ 1099511627776) (hl : (R 8).length ≤ 1000)
    (hK : K (.tup []) ⟨F, WH now (upd R 8 (R 8 ++ [a])) T U M c o2, 53, G⟩) : CallVC Tryz.prog false 62 [.loc 0 0, .agg (alD a)] ⟨F, WH now R T U M c o2, 53, G⟩ K := by
  have hpl := fun X => place_rd now a.at_ X hn ht
  rw [hr, hp] at hpl
  refine toIn 5 [(2, [0, 1, 2, 3, 4, 5, 6, 7, 8, 9, 10, 11, 14, 15, 16, 12, 13, 17, 18])] Tryz.func62 rfl (by kernel_rfl) (Nat.le_of_ble_eq_true rfl) (by decide) hG rfl hF ?_
  conv => whnf
  refine CallVC.look (hpl _) rfl ?_
  rintro _ rfl
  conv => whnf
  refine ⟨by decide, ?_⟩
  conv => whnf
  refine ⟨by decide, ?_⟩
  conv => whnf
  refine ⟨by decide, ?_⟩
  conv => whnf
  (refine ⟨Nat.le_of_ble_eq_true rfl, ?_⟩; conv => whnf)
  refine ⟨Al, alD, R 8 ++ [a], (by rw [List.map_append]; rfl), fun _ => rfl, by simp only [List.length_append, List.length_cons, List.length_nil]; omega, by simp only [List.length_append, List.length_cons, List.length_nil]; omega, rfl, ?_⟩
  conv => whnf
  refine ⟨by decide, ?_⟩
  conv => whnf
  refine ⟨[(13, 54)], [], .tup [], WH now (upd R 8 (R 8 ++ [a])) T U M c o2, 53, ?_, hK⟩
  repeat' (first | exact trivial | exact .inl (DLe.refl _) | exact .inl (DLe.nil _ _) | (refine .inr ⟨rfl, _, ?_, rfl⟩; rfl) | exact rfl | exact Nat.zero_le _ | constructor)
  exact ho _ _ _

theorem lay_9 (F : List (Nat × D)) (now : Int) (R : Nat → List Al) (T U : List Al) (M : List ME) (c : Nat) (o2 : LO) (G : List Nat × Nat) (a : Al) {K : D → St → Prop} (hr : plr now a.at_ = 0) (hp : plp now a.at_ = 9)
    (hF : F.all (fun p => cutOk 6 5 p.2) = true) (hG : Nat.ble G.2 5 = true) (ho : ∀ r z n, LOLe r z n o2 o2) (hn : 0 ≤ now ∧ now ≤ 1099511627776) (ht : 0 ≤ a.at_ ∧ a.at_ ≤ 1099511627776) (hl : (R 9).length ≤ 1000)
    (hK : K (.tup []) ⟨F, WH now (upd R 9 (R 9 ++ [a])) T U M c o2, 53, G⟩) : CallVC Tryz.prog false 62 [.loc 0 0, .agg (alD a)] ⟨F, WH now R T U M c o2, 53, G⟩ K := by
  have hpl := fun X => place_rd now a.at_ X hn ht
  rw [hr, hp] at hpl
  refine toIn 5 [(2, [0, 1, 2, 3, 4, 5, 6, 7, 8, 9, 10, 11, 14, 15, 16, 12, 13, 17, 18])] Tryz.func62 rfl (by kernel_rfl) (Nat.le_of_ble_eq_true rfl) (by decide) hG rfl hF ?_
  conv => whnf
  refine CallVC.look (hpl _) rfl ?_
  rintro _ rfl
  conv => whnf
  refine ⟨by decide, ?_⟩
  conv => whnf
  refine ⟨by decide, ?_⟩
  conv => whnf
  refine ⟨by decide, ?_⟩
  conv => whnf
  (refine ⟨Nat.le_of_ble_eq_true rfl, ?_⟩; conv => whnf)
  refine ⟨Al, alD, R 9 ++ [a], (by rw [List.map_append]; rfl), fun _ => rfl, by simp only [List.length_append, List.length_cons, List.length_nil]; omega, by simp only [List.length_append, List.length_cons, List.length_nil]; omega, rfl, ?_⟩
  conv => whnf
  refine ⟨by decide, ?_⟩
  conv => whnf
  refine ⟨[(14, 54)], [], .tup [], WH now (upd R 9 (R 9 ++ [a])) T U M c o2, 53, ?_, hK⟩
  repeat' (first | exact trivial | exact .inl (DLe.refl _) | exact .inl (DLe.nil _ _) | (refine .inr ⟨rfl, _, ?_, rfl⟩; rfl) | exact rfl | exact Nat.zero_le _ | constructor)
  exact ho _ _ _

theorem lay_10 (F : List (Nat × D)) (now : Int) (R : Nat → List Al) (T U : List Al) (M : List ME) (c : Nat) (o2 : LO) (G : List Nat × Nat) (a : Al) {K : D → St → Prop} (hr : plr now a.at_ = 0) (hp : plp now a.at_ = 10)
    (hF : F.all (fun p => cutOk 6 5 p.2) = true) (hG : Nat.ble G.2 5 = true) (ho : ∀ r z n, LOLe r z n o2 o2) (hn : 0 ≤ now ∧ now ≤ 1099511627776) (ht : 0 ≤ a.at_ ∧ a.at_ ≤ 1099511627776) (hl : (R 10).length ≤ 1000)
    (hK : K (.tup []) ⟨F, WH now (upd R 10 (R 10 ++ [a])) T U M c o2, 53, G⟩) : CallVC Tryz.prog false 62 [.loc 0 0, .agg (alD a)] ⟨F, WH now R T U M c o2, 53, G⟩ K := by
  have hpl := fun X => place_rd now a.at_ X hn ht
  rw [hr, hp] at hpl
  refine toIn 5 [(2, [0, 1, 2, 3, 4, 5, 6, 7, 8, 9, 10, 11, 14, 15, 16, 12, 13, 17, 18])] Tryz.func62 rfl (by kernel_rfl) (Nat.le_of_ble_eq_true rfl) (by decide) hG rfl hF ?_
  conv => whnf
  refine CallVC.look (hpl _) rfl ?_
  rintro _ rfl
  conv => whnf
  refine ⟨by decide, ?_⟩
  conv => whnf
  refine ⟨by decide, ?_⟩
  conv => whnf
  refine ⟨by decide, ?_⟩
  conv => whnf
  (refine ⟨Nat.le_of_ble_eq_true rfl, ?_⟩; conv => whnf)
  refine ⟨Al, alD, R 10 ++ [a], (by rw [List.map_append]; rfl), fun _ => rfl, by simp only [List.length_append, List.length_cons, List.length_nil]; omega, by simp only [List.length_append, List.length_cons, List.length_nil]; omega, rfl, ?_⟩
  conv => whnf
  refine ⟨by decide, ?_⟩
  conv => whnf
  refine ⟨[(15, 54)], [], .tup [], WH now (upd R 10 (R 10 ++ [a])) T U M c o2, 53, ?_, hK⟩
  repeat' (first | exact trivial | exact .inl (DLe.refl _) | exact .inl (DLe.nil _ _) | (refine .inr ⟨rfl, _, ?_, rfl⟩; rfl) | exact rfl | exact Nat.zero_le _ | constructor)
  exact ho _ _ _

theorem lay_11 (F : List (Nat × D)) (now : Int) (R : Nat → List Al) (T U : List Al) (M : List ME) (c : Nat) (o2 : LO) (G : List Nat × Nat) (a : Al) {K : D → St → Prop} (hr : plr now a.at_ = 0) (hp : plp now a.at_ = 11)
    (hF : F.all (fun p => cutOk 6 5 p.2) = true) (hG : Nat.ble G.2 5 = true) (ho : ∀ r z n, LOLe r z n o2 o2) (hn : 0 ≤ now ∧ now ≤ 1099511627776) (ht : 0 ≤ a.at_ ∧ a.at_ ≤ 1099511627776) (hl : (R 11).length ≤ 1000)
    (hK : K (.tup []) ⟨F, WH now (upd R 11 (R 11 ++ [a])) T U M c o2, 53, G⟩) : CallVC Tryz.prog false 62 [.loc 0 0, .agg (alD a)] ⟨F, WH now R T U M c o2, 53, G⟩ K := by
  have hpl := fun X => place_rd now a.at_ X hn ht
  rw [hr, hp] at hpl
  refine toIn 5 [(2, [0, 1, 2, 3, 4, 5, 6, 7, 8, 9, 10, 11, 14, 15, 16, 12, 13, 17, 18])] Tryz.func62 rfl (by kernel_rfl) (Nat.le_of_ble_eq_true rfl) (by decide) hG rfl hF ?_
  conv => whnf
  refine CallVC.look (hpl _) rfl ?_
  rintro _ rfl
  conv => whnf
  refine ⟨by decide, ?_⟩
  conv => whnf
  refine ⟨by decide, ?_⟩
  conv => whnf
  refine ⟨by decide, ?_⟩
  conv => whnf
  (refine ⟨Nat.le_of_ble_eq_true rfl, ?_⟩; conv => whnf)
  refine ⟨Al, alD, R 11 ++ [a], (by rw [List.map_append]; rfl), fun _ => rfl, by simp only [List.length_append, List.length_cons, List.length_nil]; omega, by simp only [List.length_append, List.length_cons, List.length_nil]; omega, rfl, ?_⟩
  conv => whnf
  refine ⟨by decide, ?_⟩
  conv => whnf
  refine ⟨[(16, 54)], [], .tup [], WH now (upd R 11 (R 11 ++ [a])) T U M c o2, 53, ?_, hK⟩
  repeat' (first | exact trivial | exact .inl (DLe.refl _) | exact .inl (DLe.nil _ _) | (refine .inr ⟨rfl, _, ?_, rfl⟩; rfl) | exact rfl | exact Nat.zero_le _ | constructor)
  exact ho _ _ _
end Go.Proofs.YtcbpdjikdohegaaGreat.V
namespace Go.Proofs.YtcbpdjikdohegaaGreat.V
open Go.RowKit
attribute [local irreducible] Fn FnN OpVC Ob

theorem lay_12 (F : List (Nat × D)) (now : Int) (R : Nat → List Al) (T U : List Al) (M : List ME) (c : Nat) (o2 : LO) (G : List Nat × Nat) (a : Al) {K : D → St → Prop} (hr : plr now a.at_ = 0) (hp : plp now a.at_ = 12)
    (hF : F.all (fun p => cutOk 6 5 p.2) = true) (hG : Nat.ble G.2 5 = true) (ho : ∀ r z n, LOLe r z n o2 o2) (hn : 0 ≤ now ∧ now ≤ 1099511627776) (ht : 0 ≤ a.at_ ∧ a.at_ ≤ 1099511627776) (hl : (R 12).length ≤ 1000)
    (hK : K (.tup []) ⟨F, WH now (upd R 12 (R 12 ++ [a])) T U M c o2, 53, G⟩) : CallVC Tryz.prog false 62 [.loc 0 0, .agg (alD a)] ⟨F, WH now R T U M c o2, 53, G⟩ K := by
  have hpl := fun X => place_rd now a.at_ X hn ht
  rw [hr, hp] at hpl
  refine toIn 5 [(2, [0, 1, 2, 3, 4, 5, 6, 7, 8, 9, 10, 11, 14, 15, 16, 12, 13, 17, 18])] Tryz.func62 rfl (by kernel_rfl) (Nat.le_of_ble_eq_true rfl) (by decide) hG rfl hF ?_
  conv => whnf
  refine CallVC.look (hpl _) rfl ?_
  rintro _ rfl
  conv => whnf
  refine ⟨by decide, ?_⟩
  conv => whnf
  refine ⟨by decide, ?_⟩
  conv => whnf
  refine ⟨by decide, ?_⟩
  conv => whnf
  (refine ⟨Nat.le_of_ble_eq_true rfl, ?_⟩; conv => whnf)
  refine ⟨Al, alD, R 12 ++ [a], (by rw [List.map_append]; rfl), fun _ => rfl, by simp only [List.length_append, List.length_cons, List.length_nil]; omega, by simp only [List.length_append, List.length_cons, List.length_nil]; omega, rfl, ?_⟩
  conv => whnf
  refine ⟨by decide, ?_⟩
  conv => whnf
  refine ⟨[(17, 54)], [], .tup [], WH now (upd R 12 (R 12 ++ [a])) T U M c o2, 53, ?_, hK⟩
  repeat' (first | exact trivial | exact .inl (DLe.refl _) | exact .inl (DLe.nil _ _) | (refine .inr ⟨rfl, _, ?_, rfl⟩; rfl) | exact rfl | exact Nat.zero_le _ | constructor)
  exact ho _ _ _

theorem lay_13 (F : List (Nat × D)) (now : Int) (R : Nat → List Al) (T U : List Al) (M : List ME) (c : Nat) (o2 : LO) (G : List Nat × Nat) (a : Al) {K : D → St → Prop} (hr : plr now a.at_ = 0) (hp : plp now a.at_ = 13)
    (hF : F.all (fun p => cutOk 6 5 p.2) = true) (hG : Nat.ble G.2 5 = true) (ho : ∀ r z n, LOLe r z n o2 o2) (hn : 0 ≤ now ∧ now ≤ 1099511627776) (ht : 0 ≤ a.at_ ∧ a.at_ ≤ 1099511627776) (hl : (R 13).length ≤ 1000)
    (hK : K (.tup []) ⟨F, WH now (upd R 13 (R 13 ++ [a])) T U M c o2, 53, G⟩) : CallVC Tryz.prog false 62 [.loc 0 0, .agg (alD a)] ⟨F, WH now R T U M c o2, 53, G⟩ K := by
  have hpl := fun X => place_rd now a.at_ X hn ht
  rw [hr, hp] at hpl
  refine toIn 5 [(2, [0, 1, 2, 3, 4, 5, 6, 7, 8, 9, 10, 11, 14, 15, 16, 12, 13, 17, 18])] Tryz.func62 rfl (by kernel_rfl) (Nat.le_of_ble_eq_true rfl) (by decide) hG rfl hF ?_
  conv => whnf
  refine CallVC.look (hpl _) rfl ?_
  rintro _ rfl
  conv => whnf
  refine ⟨by decide, ?_⟩
  conv => whnf
  refine ⟨by decide, ?_⟩
  conv => whnf
  refine ⟨by decide, ?_⟩
  conv => whnf
  (refine ⟨Nat.le_of_ble_eq_true rfl, ?_⟩; conv => whnf)
  refine ⟨Al, alD, R 13 ++ [a], (by rw [List.map_append]; rfl), fun _ => rfl, by simp only [List.length_append, List.length_cons, List.length_nil]; omega, by simp only [List.length_append, List.length_cons, List.length_nil]; omega, rfl, ?_⟩
  conv => whnf
  refine ⟨by decide, ?_⟩
  conv => whnf
  refine ⟨[(18, 54)], [], .tup [], WH now (upd R 13 (R 13 ++ [a])) T U M c o2, 53, ?_, hK⟩
  repeat' (first | exact trivial | exact .inl (DLe.refl _) | exact .inl (DLe.nil _ _) | (refine .inr ⟨rfl, _, ?_, rfl⟩; rfl) | exact rfl | exact Nat.zero_le _ | constructor)
  exact ho _ _ _

theorem lay_14 (F : List (Nat × D)) (now : Int) (R : Nat → List Al) (T U : List Al) (M : List ME) (c : Nat) (o2 : LO) (G : List Nat × Nat) (a : Al) {K : D → St → Prop} (hr : plr now a.at_ = 0) (hp : plp now a.at_ = 14)
    (hF : F.all (fun p => cutOk 6 5 p.2) = true) (hG : Nat.ble G.2 5 = true) (ho : ∀ r z n, LOLe r z n o2 o2) (hn : 0 ≤ now ∧ now ≤ 1099511627776) (ht : 0 ≤ a.at_ ∧ a.at_ ≤ 1099511627776) (hl : (R 14).length ≤ 1000)
    (hK : K (.tup []) ⟨F, WH now (upd R 14 (R 14 ++ [a])) T U M c o2, 53, G⟩) : CallVC Tryz.prog false 62 [.loc 0 0, .agg (alD a)] ⟨F, WH now R T U M c o2, 53, G⟩ K := by
  have hpl := fun X => place_rd now a.at_ X hn ht
  rw [hr, hp] at hpl
  refine toIn 5 [(2, [0, 1, 2, 3, 4, 5, 6, 7, 8, 9, 10, 11, 14, 15, 16, 12, 13, 17, 18])] Tryz.func62 rfl (by kernel_rfl) (Nat.le_of_ble_eq_true rfl) (by decide) hG rfl hF ?_
  conv => whnf
  refine CallVC.look (hpl _) rfl ?_
  rintro _ rfl
  conv => whnf
  refine ⟨by decide, ?_⟩
  conv => whnf
  refine ⟨by decide, ?_⟩
  conv => whnf
  refine ⟨by decide, ?_⟩
  conv => whnf
  (refine ⟨Nat.le_of_ble_eq_true rfl, ?_⟩; conv => whnf)
  refine ⟨Al, alD, R 14 ++ [a], (by rw [List.map_append]; rfl), fun _ => rfl, by simp only [List.length_append, List.length_cons, List.length_nil]; omega, by simp only [List.length_append, List.length_cons, List.length_nil]; omega, rfl, ?_⟩
  conv => whnf
  refine ⟨by decide, ?_⟩
  conv => whnf
  refine ⟨[(19, 54)], [], .tup [], WH now (upd R 14 (R 14 ++ [a])) T U M c o2, 53, ?_, hK⟩
  repeat' (first | exact trivial | exact .inl (DLe.refl _) | exact .inl (DLe.nil _ _) | (refine .inr ⟨rfl, _, ?_, rfl⟩; rfl) | exact rfl | exact Nat.zero_le _ | constructor)
  exact ho _ _ _

theorem lay_15 (F : List (Nat × D)) (now : Int) (R : Nat → List Al) (T U : List Al) (M : List ME) (c : Nat) (o2 : LO) (G : List Nat × Nat) (a : Al) {K : D → St → Prop} (hr : plr now a.at_ = 0) (hp : plp now a.at_ = 15)
    (hF : F.all (fun p => cutOk 6 5 p.2) = true) (hG : Nat.ble G.2 5 = true) (ho : ∀ r z n, LOLe r z n o2 o2) (hn : 0 ≤ now ∧ now ≤ 1099511627776) (ht : 0 ≤ a.at_ ∧ a.at_ ≤ 1099511627776) (hl : (R 15).length ≤ 1000)
    (hK : K (.tup []) ⟨F, WH now (upd R 15 (R 15 ++ [a])) T U M c o2, 53, G⟩) : CallVC Tryz.prog false 62 [.loc 0 0, .agg (alD a)] ⟨F, WH now R T U M c o2, 53, G⟩ K := by
  have hpl := fun X => place_rd now a.at_ X hn ht
  rw [hr, hp] at hpl
  refine toIn 5 [(2, [0, 1, 2, 3, 4, 5, 6, 7, 8, 9, 10, 11, 14, 15, 16, 12, 13, 17, 18])] Tryz.func62 rfl (by kernel_rfl) (Nat.le_of_ble_eq_true rfl) (by decide) hG rfl hF ?_
  conv => whnf
  refine CallVC.look (hpl _) rfl ?_
  rintro _ rfl
  conv => whnf
  refine ⟨by decide, ?_⟩
  conv => whnf
  refine ⟨by decide, ?_⟩
  conv => whnf
  refine ⟨by decide, ?_⟩
  conv => whnf
  (refine ⟨Nat.le_of_ble_eq_true rfl, ?_⟩; conv => whnf)
  refine ⟨Al, alD, R 15 ++ [a], (by rw [List.map_append]; rfl), fun _ => rfl, by simp only [List.length_append, List.length_cons, List.length_nil]; omega, by simp only [List.length_append, List.length_cons, List.length_nil]; omega, rfl, ?_⟩
  conv => whnf
  refine ⟨by decide, ?_⟩
  conv => whnf
  refine ⟨[(20, 54)], [], .tup [], WH now (upd R 15 (R 15 ++ [a])) T U M c o2, 53, ?_, hK⟩
  repeat' (first | exact trivial | exact .inl (DLe.refl _) | exact .inl (DLe.nil _ _) | (refine .inr ⟨rfl, _, ?_, rfl⟩; rfl) | exact rfl | exact Nat.zero_le _ | constructor)
  exact ho _ _ _

theorem lay_16 (F : List (Nat × D)) (now : Int) (R : Nat → List Al) (T U : List Al) (M : List ME) (c : Nat) (o2 : LO) (G : List Nat × Nat) (a : Al) {K : D → St → Prop} (hr : plr now a.at_ = 1) (hp : plp now a.at_ = 0)
    (hF : F.all (fun p => cutOk 6 5 p.2) = true) (hG : Nat.ble G.2 5 = true) (ho : ∀ r z n, LOLe r z n o2 o2) (hn : 0 ≤ now ∧ now ≤ 1099511627776) (ht : 0 ≤ a.at_ ∧ a.at_ ≤ 1099511627776) (hl : (R 16).length ≤ 1000)
    (hK : K (.tup []) ⟨F, WH now (upd R 16 (R 16 ++ [a])) T U M c o2, 53, G⟩) : CallVC Tryz.prog false 62 [.loc 0 0, .agg (alD a)] ⟨F, WH now R T U M c o2, 53, G⟩ K := by
  have hpl := fun X => place_rd now a.at_ X hn ht
  rw [hr, hp] at hpl
  refine toIn 5 [(2, [0, 1, 2, 3, 4, 5, 6, 7, 8, 9, 10, 11, 14, 15, 16, 12, 13, 17, 18])] Tryz.func62 rfl (by kernel_rfl) (Nat.le_of_ble_eq_true rfl) (by decide) hG rfl hF ?_
  conv => whnf
  refine CallVC.look (hpl _) rfl ?_
  rintro _ rfl
  conv => whnf
  refine ⟨by decide, ?_⟩
  conv => whnf
  refine ⟨by decide, ?_⟩
  conv => whnf
  refine ⟨by decide, ?_⟩
  conv => whnf
  (refine ⟨Nat.le_of_ble_eq_true rfl, ?_⟩; conv => whnf)
  refine ⟨Al, alD, R 16 ++ [a], (by rw [List.map_append]; rfl), fun _ => rfl, by simp only [List.length_append, List.length_cons, List.length_nil]; omega, by simp only [List.length_append, List.length_cons, List.length_nil]; omega, rfl, ?_⟩
  conv => whnf
  refine ⟨by decide, ?_⟩
  conv => whnf
  refine ⟨[(21, 54)], [], .tup [], WH now (upd R 16 (R 16 ++ [a])) T U M c o2, 53, ?_, hK⟩
  repeat' (first | exact trivial | exact .inl (DLe.refl _) | exact .inl (DLe.nil _ _) | (refine .inr ⟨rfl, _, ?_, rfl⟩; rfl) | exact rfl | exact Nat.zero_le _ | constructor)
  exact ho _ _ _

theorem lay_17 (F : List (Nat × D)) (now : Int) (R : Nat → List Al) (T U : List Al) (M : List ME) (c : Nat) (o2 : LO) (G : List Nat × Nat) (a : Al) {K : D → St → Prop} (hr : plr now a.at_ = 1) (hp : plp now a.at_ = 1)
    (hF : F.all (fun p => cutOk 6 5 p.2) = true) (hG : Nat.ble G.2 5 = true) (ho : ∀ r z n, LOLe r z n o2 o2) (hn : 0 ≤ now ∧ now ≤ 1099511627776) (ht : 0 ≤ a.at_ ∧ a.at_ ≤ 1099511627776) (hl : (R 17).length ≤ 1000)
    (hK : K (.tup []) ⟨F, WH now (upd R 17 (R 17 ++ [a])) T U M c o2, 53, G⟩) : CallVC Tryz.prog false 62 [.loc 0 0, .agg (alD a)] ⟨F, WH now R T U M c o2, 53, G⟩ K := by
  have hpl := fun X => place_rd now a.at_ X hn ht
  rw [hr, hp] at hpl
  refine toIn 5 [(2, [0, 1, 2, 3, 4, 5, 6, 7, 8, 9, 10, 11, 14, 15, 16, 12, 13, 17, 18])] Tryz.func62 rfl (by kernel_rfl) (Nat.le_of_ble_eq_true rfl) (by decide) hG rfl hF ?_
  conv => whnf
  refine CallVC.look (hpl _) rfl ?_
  rintro _ rfl
  conv => whnf
  refine ⟨by decide, ?_⟩
  conv => whnf
  refine ⟨by decide, ?_⟩
  conv => whnf
  refine ⟨by decide, ?_⟩
  conv => whnf
  (refine ⟨Nat.le_of_ble_eq_true rfl, ?_⟩; conv => whnf)
  refine ⟨Al, alD, R 17 ++ [a], (by rw [List.map_append]; rfl), fun _ => rfl, by simp only [List.length_append, List.length_cons, List.length_nil]; omega, by simp only [List.length_append, List.length_cons, List.length_nil]; omega, rfl, ?_⟩
  conv => whnf
  refine ⟨by decide, ?_⟩
  conv => whnf
  refine ⟨[(22, 54)], [], .tup [], WH now (upd R 17 (R 17 ++ [a])) T U M c o2, 53, ?_, hK⟩
  repeat' (first | exact trivial | exact .inl (DLe.refl _) | exact .inl (DLe.nil _ _) | (refine .inr ⟨rfl, _, ?_, rfl⟩; rfl) | exact rfl | exact Nat.zero_le _ | constructor)
  exact ho _ _ _

theorem lay_18 (F : List (Nat × D)) (now : Int) (R : Nat → List Al) (T U : List Al) (M : List ME) (c : Nat) (o2 : LO) (G : List Nat × Nat) (a : Al) {K : D → St → Prop} (hr : plr now a.at_ = 1) (hp : plp now a.at_ = 2)
    (hF : F.all (fun p => cutOk 6 5 p.2) = true) (hG : Nat.ble G.2 5 = true) (ho : ∀ r z n, LOLe r z n o2 o2) (hn : 0 ≤ now ∧ now ≤ 1099511627776) (ht : 0 ≤ a.at_ ∧ a.at_ ≤ 1099511627776) (hl : (R 18).length ≤ 1000)
    (hK : K (.tup []) ⟨F, WH now (upd R 18 (R 18 ++ [a])) T U M c o2, 53, G⟩) : CallVC Tryz.prog false 62 [.loc 0 0, .agg (alD a)] ⟨F, WH now R T U M c o2, 53, G⟩ K := by
  have hpl := fun X => place_rd now a.at_ X hn ht
  rw [hr, hp] at hpl
  refine toIn 5 [(2, [0, 1, 2, 3, 4, 5, 6, 7, 8, 9, 10, 11, 14, 15, 16, 12, 13, 17, 18])] Tryz.func62 rfl (by kernel_rfl) (Nat.le_of_ble_eq_true rfl) (by decide) hG rfl hF ?_
  conv => whnf
  refine CallVC.look (hpl _) rfl ?_
  rintro _ rfl
  conv => whnf
  refine ⟨by decide, ?_⟩
  conv => whnf
  refine ⟨by decide, ?_⟩
  conv => whnf
  refine ⟨by decide, ?_⟩
  conv => whnf
  (refine ⟨Nat.le_of_ble_eq_true rfl, ?_⟩; conv => whnf)
  refine ⟨Al, alD, R 18 ++ [a], (by rw [List.map_append]; rfl), fun _ => rfl, by simp only [List.length_append, List.length_cons, List.length_nil]; omega, by simp only [List.length_append, List.length_cons, List.length_nil]; omega, rfl, ?_⟩
  conv => whnf
  refine ⟨by decide, ?_⟩
  conv => whnf
  refine ⟨[(23, 54)], [], .tup [], WH now (upd R 18 (R 18 ++ [a])) T U M c o2, 53, ?_, hK⟩
  repeat' (first | exact trivial | exact .inl (DLe.refl _) | exact .inl (DLe.nil _ _) | (refine .inr ⟨rfl, _, ?_, rfl⟩; rfl) | exact rfl | exact Nat.zero_le _ | constructor)
  exact ho _ _ _

theorem lay_19 (F : List (Nat × D)) (now : Int) (R : Nat → List Al) (T U : List Al) (M : List ME) (c : Nat) (o2 : LO) (G : List Nat × Nat) (a : Al) {K : D → St → Prop} (hr : plr now a.at_ = 1) (hp : plp now a.at_ = 3)
    (hF : F.all (fun p => cutOk 6 5 p.2) = true) (hG : Nat.ble G.2 5 = true) (ho : ∀ r z n, LOLe r z n o2 o2) (hn : 0 ≤ now ∧ now ≤ 1099511627776) (ht : 0 ≤ a.at_ ∧ a.at_ ≤ 1099511627776) (hl : (R 19).length ≤ 1000)
    (hK : K (.tup []) ⟨F, WH now (upd R 19 (R 19 ++ [a])) T U M c o2, 53, G⟩) : CallVC Tryz.prog false 62 [.loc 0 0, .agg (alD a)] ⟨F, WH now R T U M c o2, 53, G⟩ K := by
  have hpl := fun X => place_rd now a.at_ X hn ht
  rw [hr, hp] at hpl
  refine toIn 5 [(2, [0, 1, 2, 3, 4, 5, 6, 7, 8, 9, 10, 11, 14, 15, 16, 12, 13, 17, 18])] Tryz.func62 rfl (by kernel_rfl) (Nat.le_of_ble_eq_true rfl) (by decide) hG rfl hF ?_
  conv => whnf
  refine CallVC.look (hpl _) rfl ?_
  rintro _ rfl
  conv => whnf
  refine ⟨by decide, ?_⟩
  conv => whnf
  refine ⟨by decide, ?_⟩
  conv => whnf
  refine ⟨by decide, ?_⟩
  conv => whnf
  (refine ⟨Nat.le_of_ble_eq_true rfl, ?_⟩; conv => whnf)
  refine ⟨Al, alD, R 19 ++ [a], (by rw [List.map_append]; rfl), fun _ => rfl, by simp only [List.length_append, List.length_cons, List.length_nil]; omega, by simp only [List.length_append, List.length_cons, List.length_nil]; omega, rfl, ?_⟩
  conv => whnf
  refine ⟨by decide, ?_⟩
  conv => whnf
  refine ⟨[(24, 54)], [], .tup [], WH now (upd R 19 (R 19 ++ [a])) T U M c o2, 53, ?_, hK⟩
  repeat' (first | exact trivial | exact .inl (DLe.refl _) | exact .inl (DLe.nil _ _) | (refine .inr ⟨rfl, _, ?_, rfl⟩; rfl) | exact rfl | exact Nat.zero_le _ | constructor)
  exact ho _ _ _

theorem lay_20 (F : List (Nat × D)) (now : Int) (R : Nat → List Al) (T U : List Al) (M : List ME) (c : Nat) (o2 : LO) (G : List Nat × Nat) (a : Al) {K : D → St → Prop} (hr : plr now a.at_ = 1) (hp : plp now a.at_ = 4)
    (hF : F.all (fun p => cutOk 6 5 p.2) = true) (hG : Nat.ble G.2 5 = true) (ho : ∀ r z n, LOLe r z n o2 o2) (hn : 0 ≤ now ∧ now ≤ 1099511627776) (ht : 0 ≤ a.at_ ∧ a.at_ ≤ 1099511627776) (hl : (R 20).length ≤ 1000)
    (hK : K (.tup []) ⟨F, WH now (upd R 20 (R 20 ++ [a])) T U M c o2, 53, G⟩) : CallVC Tryz.prog false 62 [.loc 0 0, .agg (alD a)] ⟨F, WH now R T U M c o2, 53, G⟩ K := by
  have hpl := fun X => place_rd now a.at_ X hn ht
  rw [hr, hp] at hpl
  refine toIn 5 [(2, [0, 1, 2, 3, 4, 5, 6, 7, 8, 9, 10, 11, 14, 15, 16, 12, 13, 17, 18])] Tryz.func62 rfl (by kernel_rfl) (Nat.le_of_ble_eq_true rfl) (by decide) hG rfl hF ?_
  conv => whnf
  refine CallVC.look (hpl _) rfl ?_
  rintro _ rfl
  conv => whnf
  refine ⟨by decide, ?_⟩
  conv => whnf
  refine ⟨by decide, ?_⟩
  conv => whnf
  refine ⟨by decide, ?_⟩
  conv => whnf
  (refine ⟨Nat.le_of_ble_eq_true rfl, ?_⟩; conv => whnf)
  refine ⟨Al, alD, R 20 ++ [a], (by rw [List.map_append]; rfl), fun _ => rfl, by simp only [List.length_append, List.length_cons, List.length_nil]; omega, by simp only [List.length_append, List.length_cons, List.length_nil]; omega, rfl, ?_⟩
  conv => whnf
  refine ⟨by decide, ?_⟩
  conv => whnf
  refine ⟨[(25, 54)], [], .tup [], WH now (upd R 20 (R 20 ++ [a])) T U M c o2, 53, ?_, hK⟩
  repeat' (first | exact trivial | exact .inl (DLe.refl _) | exact .inl (DLe.nil _ _) | (refine .inr ⟨rfl, _, ?_, rfl⟩; rfl) | exact rfl | exact Nat.zero_le _ | constructor)
  exact ho _ _ _

theorem lay_21 (F : List (Nat × D)) (now : Int) (R : Nat → List Al) (T U : List Al) (M : List ME) (c : Nat) (o2 : LO) (G : List Nat × Nat) (a : Al) {K : D → St → Prop} (hr : plr now a.at_ = 1) (hp : plp now a.at_ = 5)
    (hF : F.all (fun p => cutOk 6 5 p.2) = true) (hG : Nat.ble G.2 5 = true) (ho : ∀ r z n, LOLe r z n o2 o2) (hn : 0 ≤ now ∧ now ≤ 1099511627776) (ht : 0 ≤ a.at_ ∧ a.at_ ≤ 1099511627776) (hl : (R 21).length ≤ 1000)
    (hK : K (.tup []) ⟨F, WH now (upd R 21 (R 21 ++ [a])) T U M c o2, 53, G⟩) : CallVC Tryz.prog false 62 [.loc 0 0, .agg (alD a)] ⟨F, WH now R T U M c o2, 53, G⟩ K := by
  have hpl := fun X => place_rd now a.at_ X hn ht
  rw [hr, hp] at hpl
  refine toIn 5 [(2, [0, 1, 2, 3, 4, 5, 6, 7, 8, 9, 10, 11, 14, 15, 16, 12, 13, 17, 18])] Tryz.func62 rfl (by kernel_rfl) (Nat.le_of_ble_eq_true rfl) (by decide) hG rfl hF ?_
  conv => whnf
  refine CallVC.look (hpl _) rfl ?_
  rintro _ rfl
  conv => whnf
  refine ⟨by decide, ?_⟩
  conv => whnf
  refine ⟨by decide, ?_⟩
  conv => whnf
  refine ⟨by decide, ?_⟩
  conv => whnf
  (refine ⟨Nat.le_of_ble_eq_true rfl, ?_⟩; conv => whnf)
  refine ⟨Al, alD, R 21 ++ [a], (by rw [List.map_append]; rfl), fun _ => rfl, by simp only [List.length_append, List.length_cons, List.length_nil]; omega, by simp only [List.length_append, List.length_cons, List.length_nil]; omega, rfl, ?_⟩
  conv => whnf
  refine ⟨by decide, ?_⟩
  conv => whnf
  refine ⟨[(26, 54)], [], .tup [], WH now (upd R 21 (R 21 ++ [a])) T U M c o2, 53, ?_, hK⟩
  repeat' (first | exact trivial | exact .inl (DLe.refl _) | exact .inl (DLe.nil _ _) | (refine .inr ⟨rfl, _, ?_, rfl⟩; rfl) | exact rfl | exact Nat.zero_le _ | constructor)
  exact ho _ _ _

theorem lay_22 (F : List (Nat × D)) (now : Int) (R : Nat → List Al) (T U : List Al) (M : List ME) (c : Nat) (o2 : LO) (G : List Nat × Nat) (a : Al) {K : D → St → Prop} (hr : plr now a.at_ = 1) (hp : plp now a.at_ = 6)
    (hF : F.all (fun p => cutOk 6 5 p.2) = true) (hG : Nat.ble G.2 5 = true) (ho : ∀ r z n, LOLe r z n o2 o2) (hn : 0 ≤ now ∧ now ≤ 1099511627776) (ht : 0 ≤ a.at_ ∧ a.at_ ≤ 1099511627776) (hl : (R 22).length ≤ 1000)
    (hK : K (.tup []) ⟨F, WH now (upd R 22 (R 22 ++ [a])) T U M c o2, 53, G⟩) : CallVC Tryz.prog false 62 [.loc 0 0, .agg (alD a)] ⟨F, WH now R T U M c o2, 53, G⟩ K := by
  have hpl := fun X => place_rd now a.at_ X hn ht
  rw [hr, hp] at hpl
  refine toIn 5 [(2, [0, 1, 2, 3, 4, 5, 6, 7, 8, 9, 10, 11, 14, 15, 16, 12, 13, 17, 18])] Tryz.func62 rfl (by kernel_rfl) (Nat.le_of_ble_eq_true rfl) (by decide) hG rfl hF ?_
  conv => whnf
  refine CallVC.look (hpl _) rfl ?_
  rintro _ rfl
  conv => whnf
  refine ⟨by decide, ?_⟩
  conv => whnf
  refine ⟨by decide, ?_⟩
  conv => whnf
  refine ⟨by decide, ?_⟩
  conv => whnf
  (refine ⟨Nat.le_of_ble_eq_true rfl, ?_⟩; conv => whnf)
  refine ⟨Al, alD, R 22 ++ [a], (by rw [List.map_append]; rfl), fun _ => rfl, by simp only [List.length_append, List.length_cons, List.length_nil]; omega, by simp only [List.length_append, List.length_cons, List.length_nil]; omega, rfl, ?_⟩
  conv => whnf
  refine ⟨by decide, ?_⟩
  conv => whnf
  refine ⟨[(27, 54)], [], .tup [], WH now (upd R 22 (R 22 ++ [a])) T U M c o2, 53, ?_, hK⟩
  repeat' (first | exact trivial | exact .inl (DLe.refl _) | exact .inl (DLe.nil _ _) | (refine .inr ⟨rfl, _, ?_, rfl⟩; rfl) | exact rfl | exact Nat.zero_le _ | constructor)
  exact ho _ _ _

theorem lay_23 (F : List (Nat × D)) (now : Int) (R : Nat → List Al) (T U : List Al) (M : List ME) (c : Nat) (o2 : LO) (G : List Nat × Nat) (a : Al) {K : D → St → Prop} (hr : plr now a.at_ = 1) (hp : plp now a.at_ = 7)
    (hF : F.all (fun p => cutOk 6 5 p.2) = true) (hG : Nat.ble G.2 5 = true) (ho : ∀ r z n, LOLe r z n o2 o2) (hn : 0 ≤ now ∧ now ≤ 1099511627776) (ht : 0 ≤ a.at_ ∧ a.at_ ≤ 1099511627776) (hl : (R 23).length ≤ 1000)
    (hK : K (.tup []) ⟨F, WH now (upd R 23 (R 23 ++ [a])) T U M c o2, 53, G⟩) : CallVC Tryz.prog false 62 [.loc 0 0, .agg (alD a)] ⟨F, WH now R T U M c o2, 53, G⟩ K := by
  have hpl := fun X => place_rd now a.at_ X hn ht
  rw [hr, hp] at hpl
  refine toIn 5 [(2, [0, 1, 2, 3, 4, 5, 6, 7, 8, 9, 10, 11, 14, 15, 16, 12, 13, 17, 18])] Tryz.func62 rfl (by kernel_rfl) (Nat.le_of_ble_eq_true rfl) (by decide) hG rfl hF ?_
  conv => whnf
  refine CallVC.look (hpl _) rfl ?_
  rintro _ rfl
  conv => whnf
  refine ⟨by decide, ?_⟩
  conv => whnf
  refine ⟨by decide, ?_⟩
  conv => whnf
  refine ⟨by decide, ?_⟩
  conv => whnf
  (refine ⟨Nat.le_of_ble_eq_true rfl, ?_⟩; conv => whnf)
  refine ⟨Al, alD, R 23 ++ [a], (by rw [List.map_append]; rfl), fun _ => rfl, by simp only [List.length_append, List.length_cons, List.length_nil]; omega, by simp only [List.length_append, List.length_cons, List.length_nil]; omega, rfl, ?_⟩
  conv => whnf
  refine ⟨by decide, ?_⟩
  conv => whnf
  refine ⟨[(28, 54)], [], .tup [], WH now (upd R 23 (R 23 ++ [a])) T U M c o2, 53, ?_, hK⟩
  repeat' (first | exact trivial | exact .inl (DLe.refl _) | exact .inl (DLe.nil _ _) | (refine .inr ⟨rfl, _, ?_, rfl⟩; rfl) | exact rfl | exact Nat.zero_le _ | constructor)
  exact ho _ _ _
end Go.Proofs.YtcbpdjikdohegaaGreat.V
