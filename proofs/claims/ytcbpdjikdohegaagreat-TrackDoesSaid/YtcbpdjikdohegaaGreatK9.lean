/-
  The wheel goes on by one tick, place by place. Conditions: ticks not too great, rows not too long.
  The wheel goes on by one tick, place by place. Conditions: ticks not too great, rows not too long.
-/
import Derived.Test.YtcbpdjikdohegaaGreatK8
namespace Go.Proofs.YtcbpdjikdohegaaGreat.V
open Go.RowKit
attribute [local irreducible] Fn FnN OpVC Ob RowFn

theorem tick_1 (F : List (Nat × D)) (now : Int) (R : Nat → List Al) (T U : List Al) (M : List ME) (c : Nat) (o2 : LO) (G : List Nat × Nat) (S : List Al) {K : D → St → Prop} (hF : F.all (fun p => cutOk 6 4 p.2) = true) (hG : Nat.ble G.2 4 = true) (ho : ∀ r z n, LOLe r z n o2 o2) (hn : 0 ≤ now ∧ now ≤ 1099511620000) (hp : (now + 1) % 16 = 1) (hlen : (R 1).length ≤ 1000000)
    (hS : S.Pairwise fun x y => x.id < y.id) (hSp : S.Perm (R 1)) (hK : K (.grow 4) ⟨F, WH (now + 1) (upd R 1 []) S U (mdels S M) c o2, 53, G⟩) : CallVC Tryz.prog false 53 [.loc 0 0] ⟨F, WH now R T U M c o2, 53, G⟩ K := by
  have hw : IntKind.i64.wrap (now + 1) = now + 1 := IntWalk.i64_in _ (by omega)
  have hSl := hSp.length_eq
  have e16 : Int.tmod (now + 1) 16 = (now + 1) % 16 := Int.tmod_eq_emod_of_nonneg (by omega)
  have e256 : Int.tmod (now + 1) 256 = (now + 1) % 256 := Int.tmod_eq_emod_of_nonneg (by omega)
  have htm : Int.tmod (now + 1) 16 = 1 := e16.trans hp
  have hb : decide (Int.tmod (now + 1) 256 = 0) = false := decide_eq_false (by rw [e256]; omega)
  refine toIn 4 [] Tryz.func53 rfl (by kernel_rfl) (Nat.le_of_ble_eq_true rfl) (by decide) hG rfl hF ?_
  conv => whnf
  rw [hw]
  refine ⟨by decide, ?_⟩
  conv => whnf
  rw [hb]
  conv => whnf
  refine ⟨by decide, ?_⟩
  conv => whnf
  rw [htm]
  conv => whnf
  refine ⟨by decide, ?_⟩
  conv => whnf
  rw [htm]
  refine ⟨by decide, ?_⟩
  conv => whnf
  refine ⟨by decide, ?_⟩
  conv => whnf
  refine ⟨by decide, ?_⟩
  conv => whnf
  refine ⟨by decide, ?_⟩
  conv => whnf
  refine CallVC.cov (args1 := [.grow 4, .fn 67 [] []]) [(4, 6), (6, 70)] [6] ⟨[(4, .grow 4), (0, .loc 0 0)], WH (now + 1) (upd R 1 []) (R 1) U M c o2, 53, (upto 4 0, 4)⟩ ?_ ?_ (sortA_vc (L := R 1) (S := S) rfl hlen hS hSp ?_)
  · repeat' (first | exact trivial | exact .inl (DLe.refl _) | exact .inl (DLe.nil _ _) | (refine .inr ⟨rfl, _, ?_, rfl⟩; rfl) | exact rfl | exact Nat.zero_le _ | constructor)
    exact ho _ _ _
  · repeat' (first | exact trivial | exact .inl (DLe.refl _) | exact .inl (DLe.nil _ _) | (refine .inr ⟨rfl, _, ?_, rfl⟩; rfl) | exact rfl | exact Nat.zero_le _ | constructor)
  · conv => whnf
    refine ⟨Nat, fun i => ⟨[(64, intD i), (63, intD S.length), (62, .grow 4), (4, .grow 4), (0, .loc 0 0)], WH (now + 1) (upd R 1 []) S U (mdels (S.take i) M) c o2, 53, (upto 4 0, 4)⟩, fun i => i ≤ S.length, fun i => S.length - i, ⟨0, [], [], ?_, Nat.zero_le _⟩, ?_⟩
    · repeat' (first | exact trivial | exact .inl (DLe.refl _) | exact .inl (DLe.nil _ _) | (refine .inr ⟨rfl, _, ?_, rfl⟩; rfl) | exact rfl | exact Nat.zero_le _ | constructor)
      exact ho _ _ _
    · intro i hi
      conv => whnf
      refine Fork.intro (fun h1 => ?_) (fun h1 => ?_)
      · have hlt : (i : Int) < S.length := of_decide_eq_true h1
        conv => whnf
        refine ⟨rfl, ⟨by omega, hlt⟩, ?_⟩
        conv => whnf
        refine ⟨rfl, by show (i : Int).toNat < _; omega, fun a ha => ?_⟩
        have hak : S[i]? = some a := by simpa using ha
        conv => whnf
        refine op_delete rfl imap_ok rfl rfl rfl ?_
        conv => whnf
        rw [wrap_next (show i < S.length by omega) (by omega)]
        refine ⟨i + 1, [], [], ?_, by show i + 1 ≤ _; omega, by show S.length - (i + 1) < S.length - i; omega⟩
        show Cover _ _ _ ⟨_, WH _ _ _ _ (mdels (S.take (i + 1)) M) _ _, _, _⟩
        rw [take_snoc hak, mdels_snoc]
        repeat' (first | exact trivial | exact .inl (DLe.refl _) | exact .inl (DLe.nil _ _) | (refine .inr ⟨rfl, _, ?_, rfl⟩; rfl) | exact rfl | exact Nat.zero_le _ | constructor)
        exact ho _ _ _
      · have hge : ¬ (i : Int) < S.length := of_decide_eq_false h1
        have hil : S.take i = S := List.take_of_length_le (by omega)
        conv => whnf
        rw [hil]
        refine ⟨[], [], .grow 4, WH (now + 1) (upd R 1 []) S U (mdels S M) c o2, 53, ?_, hK⟩
        repeat' (first | exact trivial | exact .inl (DLe.refl _) | exact .inl (DLe.nil _ _) | (refine .inr ⟨rfl, _, ?_, rfl⟩; rfl) | exact rfl | exact Nat.zero_le _ | constructor)
        exact ho _ _ _

theorem tick_2 (F : List (Nat × D)) (now : Int) (R : Nat → List Al) (T U : List Al) (M : List ME) (c : Nat) (o2 : LO) (G : List Nat × Nat) (S : List Al) {K : D → St → Prop} (hF : F.all (fun p => cutOk 6 4 p.2) = true) (hG : Nat.ble G.2 4 = true) (ho : ∀ r z n, LOLe r z n o2 o2) (hn : 0 ≤ now ∧ now ≤ 1099511620000) (hp : (now + 1) % 16 = 2) (hlen : (R 2).length ≤ 1000000)
    (hS : S.Pairwise fun x y => x.id < y.id) (hSp : S.Perm (R 2)) (hK : K (.grow 4) ⟨F, WH (now + 1) (upd R 2 []) S U (mdels S M) c o2, 53, G⟩) : CallVC Tryz.prog false 53 [.loc 0 0] ⟨F, WH now R T U M c o2, 53, G⟩ K := by
  have hw : IntKind.i64.wrap (now + 1) = now + 1 := IntWalk.i64_in _ (by omega)
  have hSl := hSp.length_eq
  have e16 : Int.tmod (now + 1) 16 = (now + 1) % 16 := Int.tmod_eq_emod_of_nonneg (by omega)
  have e256 : Int.tmod (now + 1) 256 = (now + 1) % 256 := Int.tmod_eq_emod_of_nonneg (by omega)
  have htm : Int.tmod (now + 1) 16 = 2 := e16.trans hp
  have hb : decide (Int.tmod (now + 1) 256 = 0) = false := decide_eq_false (by rw [e256]; omega)
  refine toIn 4 [] Tryz.func53 rfl (by kernel_rfl) (Nat.le_of_ble_eq_true rfl) (by decide) hG rfl hF ?_
  conv => whnf
  rw [hw]
  refine ⟨by decide, ?_⟩
  conv => whnf
  rw [hb]
  conv => whnf
  refine ⟨by decide, ?_⟩
  conv => whnf
  rw [htm]
  conv => whnf
  refine ⟨by decide, ?_⟩
  conv => whnf
  rw [htm]
  refine ⟨by decide, ?_⟩
  conv => whnf
  refine ⟨by decide, ?_⟩
  conv => whnf
  refine ⟨by decide, ?_⟩
  conv => whnf
  refine ⟨by decide, ?_⟩
  conv => whnf
  refine CallVC.cov (args1 := [.grow 4, .fn 67 [] []]) [(4, 7), (7, 70)] [7] ⟨[(4, .grow 4), (0, .loc 0 0)], WH (now + 1) (upd R 2 []) (R 2) U M c o2, 53, (upto 4 0, 4)⟩ ?_ ?_ (sortA_vc (L := R 2) (S := S) rfl hlen hS hSp ?_)
  · repeat' (first | exact trivial | exact .inl (DLe.refl _) | exact .inl (DLe.nil _ _) | (refine .inr ⟨rfl, _, ?_, rfl⟩; rfl) | exact rfl | exact Nat.zero_le _ | constructor)
    exact ho _ _ _
  · repeat' (first | exact trivial | exact .inl (DLe.refl _) | exact .inl (DLe.nil _ _) | (refine .inr ⟨rfl, _, ?_, rfl⟩; rfl) | exact rfl | exact Nat.zero_le _ | constructor)
  · conv => whnf
    refine ⟨Nat, fun i => ⟨[(64, intD i), (63, intD S.length), (62, .grow 4), (4, .grow 4), (0, .loc 0 0)], WH (now + 1) (upd R 2 []) S U (mdels (S.take i) M) c o2, 53, (upto 4 0, 4)⟩, fun i => i ≤ S.length, fun i => S.length - i, ⟨0, [], [], ?_, Nat.zero_le _⟩, ?_⟩
    · repeat' (first | exact trivial | exact .inl (DLe.refl _) | exact .inl (DLe.nil _ _) | (refine .inr ⟨rfl, _, ?_, rfl⟩; rfl) | exact rfl | exact Nat.zero_le _ | constructor)
      exact ho _ _ _
    · intro i hi
      conv => whnf
      refine Fork.intro (fun h1 => ?_) (fun h1 => ?_)
      · have hlt : (i : Int) < S.length := of_decide_eq_true h1
        conv => whnf
        refine ⟨rfl, ⟨by omega, hlt⟩, ?_⟩
        conv => whnf
        refine ⟨rfl, by show (i : Int).toNat < _; omega, fun a ha => ?_⟩
        have hak : S[i]? = some a := by simpa using ha
        conv => whnf
        refine op_delete rfl imap_ok rfl rfl rfl ?_
        conv => whnf
        rw [wrap_next (show i < S.length by omega) (by omega)]
        refine ⟨i + 1, [], [], ?_, by show i + 1 ≤ _; omega, by show S.length - (i + 1) < S.length - i; omega⟩
        show Cover _ _ _ ⟨_, WH _ _ _ _ (mdels (S.take (i + 1)) M) _ _, _, _⟩
        rw [take_snoc hak, mdels_snoc]
        repeat' (first | exact trivial | exact .inl (DLe.refl _) | exact .inl (DLe.nil _ _) | (refine .inr ⟨rfl, _, ?_, rfl⟩; rfl) | exact rfl | exact Nat.zero_le _ | constructor)
        exact ho _ _ _
      · have hge : ¬ (i : Int) < S.length := of_decide_eq_false h1
        have hil : S.take i = S := List.take_of_length_le (by omega)
        conv => whnf
        rw [hil]
        refine ⟨[], [], .grow 4, WH (now + 1) (upd R 2 []) S U (mdels S M) c o2, 53, ?_, hK⟩
        repeat' (first | exact trivial | exact .inl (DLe.refl _) | exact .inl (DLe.nil _ _) | (refine .inr ⟨rfl, _, ?_, rfl⟩; rfl) | exact rfl | exact Nat.zero_le _ | constructor)
        exact ho _ _ _

theorem tick_3 (F : List (Nat × D)) (now : Int) (R : Nat → List Al) (T U : List Al) (M : List ME) (c : Nat) (o2 : LO) (G : List Nat × Nat) (S : List Al) {K : D → St → Prop} (hF : F.all (fun p => cutOk 6 4 p.2) = true) (hG : Nat.ble G.2 4 = true) (ho : ∀ r z n, LOLe r z n o2 o2) (hn : 0 ≤ now ∧ now ≤ 1099511620000) (hp : (now + 1) % 16 = 3) (hlen : (R 3).length ≤ 1000000)
    (hS : S.Pairwise fun x y => x.id < y.id) (hSp : S.Perm (R 3)) (hK : K (.grow 4) ⟨F, WH (now + 1) (upd R 3 []) S U (mdels S M) c o2, 53, G⟩) : CallVC Tryz.prog false 53 [.loc 0 0] ⟨F, WH now R T U M c o2, 53, G⟩ K := by
  have hw : IntKind.i64.wrap (now + 1) = now + 1 := IntWalk.i64_in _ (by omega)
  have hSl := hSp.length_eq
  have e16 : Int.tmod (now + 1) 16 = (now + 1) % 16 := Int.tmod_eq_emod_of_nonneg (by omega)
  have e256 : Int.tmod (now + 1) 256 = (now + 1) % 256 := Int.tmod_eq_emod_of_nonneg (by omega)
  have htm : Int.tmod (now + 1) 16 = 3 := e16.trans hp
  have hb : decide (Int.tmod (now + 1) 256 = 0) = false := decide_eq_false (by rw [e256]; omega)
  refine toIn 4 [] Tryz.func53 rfl (by kernel_rfl) (Nat.le_of_ble_eq_true rfl) (by decide) hG rfl hF ?_
  conv => whnf
  rw [hw]
  refine ⟨by decide, ?_⟩
  conv => whnf
  rw [hb]
  conv => whnf
  refine ⟨by decide, ?_⟩
  conv => whnf
  rw [htm]
  conv => whnf
  refine ⟨by decide, ?_⟩
  conv => whnf
  rw [htm]
  refine ⟨by decide, ?_⟩
  conv => whnf
  refine ⟨by decide, ?_⟩
  conv => whnf
  refine ⟨by decide, ?_⟩
  conv => whnf
  refine ⟨by decide, ?_⟩
  conv => whnf
  refine CallVC.cov (args1 := [.grow 4, .fn 67 [] []]) [(4, 8), (8, 70)] [8] ⟨[(4, .grow 4), (0, .loc 0 0)], WH (now + 1) (upd R 3 []) (R 3) U M c o2, 53, (upto 4 0, 4)⟩ ?_ ?_ (sortA_vc (L := R 3) (S := S) rfl hlen hS hSp ?_)
  · repeat' (first | exact trivial | exact .inl (DLe.refl _) | exact .inl (DLe.nil _ _) | (refine .inr ⟨rfl, _, ?_, rfl⟩; rfl) | exact rfl | exact Nat.zero_le _ | constructor)
    exact ho _ _ _
  · repeat' (first | exact trivial | exact .inl (DLe.refl _) | exact .inl (DLe.nil _ _) | (refine .inr ⟨rfl, _, ?_, rfl⟩; rfl) | exact rfl | exact Nat.zero_le _ | constructor)
  · conv => whnf
    refine ⟨Nat, fun i => ⟨[(64, intD i), (63, intD S.length), (62, .grow 4), (4, .grow 4), (0, .loc 0 0)], WH (now + 1) (upd R 3 []) S U (mdels (S.take i) M) c o2, 53, (upto 4 0, 4)⟩, fun i => i ≤ S.length, fun i => S.length - i, ⟨0, [], [], ?_, Nat.zero_le _⟩, ?_⟩
    · repeat' (first | exact trivial | exact .inl (DLe.refl _) | exact .inl (DLe.nil _ _) | (refine .inr ⟨rfl, _, ?_, rfl⟩; rfl) | exact rfl | exact Nat.zero_le _ | constructor)
      exact ho _ _ _
    · intro i hi
      conv => whnf
      refine Fork.intro (fun h1 => ?_) (fun h1 => ?_)
      · have hlt : (i : Int) < S.length := of_decide_eq_true h1
        conv => whnf
        refine ⟨rfl, ⟨by omega, hlt⟩, ?_⟩
        conv => whnf
        refine ⟨rfl, by show (i : Int).toNat < _; omega, fun a ha => ?_⟩
        have hak : S[i]? = some a := by simpa using ha
        conv => whnf
        refine op_delete rfl imap_ok rfl rfl rfl ?_
        conv => whnf
        rw [wrap_next (show i < S.length by omega) (by omega)]
        refine ⟨i + 1, [], [], ?_, by show i + 1 ≤ _; omega, by show S.length - (i + 1) < S.length - i; omega⟩
        show Cover _ _ _ ⟨_, WH _ _ _ _ (mdels (S.take (i + 1)) M) _ _, _, _⟩
        rw [take_snoc hak, mdels_snoc]
        repeat' (first | exact trivial | exact .inl (DLe.refl _) | exact .inl (DLe.nil _ _) | (refine .inr ⟨rfl, _, ?_, rfl⟩; rfl) | exact rfl | exact Nat.zero_le _ | constructor)
        exact ho _ _ _
      · have hge : ¬ (i : Int) < S.length := of_decide_eq_false h1
        have hil : S.take i = S := List.take_of_length_le (by omega)
        conv => whnf
        rw [hil]
        refine ⟨[], [], .grow 4, WH (now + 1) (upd R 3 []) S U (mdels S M) c o2, 53, ?_, hK⟩
        repeat' (first | exact trivial | exact .inl (DLe.refl _) | exact .inl (DLe.nil _ _) | (refine .inr ⟨rfl, _, ?_, rfl⟩; rfl) | exact rfl | exact Nat.zero_le _ | constructor)
        exact ho _ _ _

theorem tick_4 (F : List (Nat × D)) (now : Int) (R : Nat → List Al) (T U : List Al) (M : List ME) (c : Nat) (o2 : LO) (G : List Nat × Nat) (S : List Al) {K : D → St → Prop} (hF : F.all (fun p => cutOk 6 4 p.2) = true) (hG : Nat.ble G.2 4 = true) (ho : ∀ r z n, LOLe r z n o2 o2) (hn : 0 ≤ now ∧ now ≤ 1099511620000) (hp : (now + 1) % 16 = 4) (hlen : (R 4).length ≤ 1000000)
    (hS : S.Pairwise fun x y => x.id < y.id) (hSp : S.Perm (R 4)) (hK : K (.grow 4) ⟨F, WH (now + 1) (upd R 4 []) S U (mdels S M) c o2, 53, G⟩) : CallVC Tryz.prog false 53 [.loc 0 0] ⟨F, WH now R T U M c o2, 53, G⟩ K := by
  have hw : IntKind.i64.wrap (now + 1) = now + 1 := IntWalk.i64_in _ (by omega)
  have hSl := hSp.length_eq
  have e16 : Int.tmod (now + 1) 16 = (now + 1) % 16 := Int.tmod_eq_emod_of_nonneg (by omega)
  have e256 : Int.tmod (now + 1) 256 = (now + 1) % 256 := Int.tmod_eq_emod_of_nonneg (by omega)
  have htm : Int.tmod (now + 1) 16 = 4 := e16.trans hp
  have hb : decide (Int.tmod (now + 1) 256 = 0) = false := decide_eq_false (by rw [e256]; omega)
  refine toIn 4 [] Tryz.func53 rfl (by kernel_rfl) (Nat.le_of_ble_eq_true rfl) (by decide) hG rfl hF ?_
  conv => whnf
  rw [hw]
  refine ⟨by decide, ?_⟩
  conv => whnf
  rw [hb]
  conv => whnf
  refine ⟨by decide, ?_⟩
  conv => whnf
  rw [htm]
  conv => whnf
  refine ⟨by decide, ?_⟩
  conv => whnf
  rw [htm]
  refine ⟨by decide, ?_⟩
  conv => whnf
  refine ⟨by decide, ?_⟩
  conv => whnf
  refine ⟨by decide, ?_⟩
  conv => whnf
  refine ⟨by decide, ?_⟩
  conv => whnf
  refine CallVC.cov (args1 := [.grow 4, .fn 67 [] []]) [(4, 9), (9, 70)] [9] ⟨[(4, .grow 4), (0, .loc 0 0)], WH (now + 1) (upd R 4 []) (R 4) U M c o2, 53, (upto 4 0, 4)⟩ ?_ ?_ (sortA_vc (L := R 4) (S := S) rfl hlen hS hSp ?_)
  · repeat' (first | exact trivial | exact .inl (DLe.refl _) | exact .inl (DLe.nil _ _) | (refine .inr ⟨rfl, _, ?_, rfl⟩; rfl) | exact rfl | exact Nat.zero_le _ | constructor)
    exact ho _ _ _
  · repeat' (first | exact trivial | exact .inl (DLe.refl _) | exact .inl (DLe.nil _ _) | (refine .inr ⟨rfl, _, ?_, rfl⟩; rfl) | exact rfl | exact Nat.zero_le _ | constructor)
  · conv => whnf
    refine ⟨Nat, fun i => ⟨[(64, intD i), (63, intD S.length), (62, .grow 4), (4, .grow 4), (0, .loc 0 0)], WH (now + 1) (upd R 4 []) S U (mdels (S.take i) M) c o2, 53, (upto 4 0, 4)⟩, fun i => i ≤ S.length, fun i => S.length - i, ⟨0, [], [], ?_, Nat.zero_le _⟩, ?_⟩
    · repeat' (first | exact trivial | exact .inl (DLe.refl _) | exact .inl (DLe.nil _ _) | (refine .inr ⟨rfl, _, ?_, rfl⟩; rfl) | exact rfl | exact Nat.zero_le _ | constructor)
      exact ho _ _ _
    · intro i hi
      conv => whnf
      refine Fork.intro (fun h1 => ?_) (fun h1 => ?_)
      · have hlt : (i : Int) < S.length := of_decide_eq_true h1
        conv => whnf
        refine ⟨rfl, ⟨by omega, hlt⟩, ?_⟩
        conv => whnf
        refine ⟨rfl, by show (i : Int).toNat < _; omega, fun a ha => ?_⟩
        have hak : S[i]? = some a := by simpa using ha
        conv => whnf
        refine op_delete rfl imap_ok rfl rfl rfl ?_
        conv => whnf
        rw [wrap_next (show i < S.length by omega) (by omega)]
        refine ⟨i + 1, [], [], ?_, by show i + 1 ≤ _; omega, by show S.length - (i + 1) < S.length - i; omega⟩
        show Cover _ _ _ ⟨_, WH _ _ _ _ (mdels (S.take (i + 1)) M) _ _, _, _⟩
        rw [take_snoc hak, mdels_snoc]
        repeat' (first | exact trivial | exact .inl (DLe.refl _) | exact .inl (DLe.nil _ _) | (refine .inr ⟨rfl, _, ?_, rfl⟩; rfl) | exact rfl | exact Nat.zero_le _ | constructor)
        exact ho _ _ _
      · have hge : ¬ (i : Int) < S.length := of_decide_eq_false h1
        have hil : S.take i = S := List.take_of_length_le (by omega)
        conv => whnf
        rw [hil]
        refine ⟨[], [], .grow 4, WH (now + 1) (upd R 4 []) S U (mdels S M) c o2, 53, ?_, hK⟩
        repeat' (first | exact trivial | exact .inl (DLe.refl _) | exact .inl (DLe.nil _ _) | (refine .inr ⟨rfl, _, ?_, rfl⟩; rfl) | exact rfl | exact Nat.zero_le _ | constructor)
        exact ho _ _ _
end Go.Proofs.YtcbpdjikdohegaaGreat.V
namespace Go.Proofs.YtcbpdjikdohegaaGreat.V
open Go.RowKit
attribute [local irreducible] Fn FnN OpVC Ob RowFn

theorem tick_5 (F : List (Nat × D)) (now : Int) (R : Nat → List Al) (T U : List Al) (M : List ME) (c : Nat) (o2 : LO) (G : List Nat × Nat) (S : List Al) {K : D → St → Prop} (hF : F.all (fun p => cutOk 6 4 p.2) = true) (hG : Nat.ble G.2 4 = true) (ho : ∀ r z n, LOLe r z n o2 o2) (hn : 0 ≤ now ∧ now ≤ 1099511620000) (hp : (now + 1) % 16 = 5) (hlen : (R 5).length ≤ 1000000)
    (hS : S.Pairwise fun x y => x.id < y.id) (hSp : S.Perm (R 5)) (hK : K (.grow 4) ⟨F, WH (now + 1) (upd R 5 []) S U (mdels S M) c o2, 53, G⟩) : CallVC Tryz.prog false 53 [.loc 0 0] ⟨F, WH now R T U M c o2, 53, G⟩ K := by
  have hw : IntKind.i64.wrap (now + 1) = now + 1 := IntWalk.i64_in _ (by omega)
  have hSl := hSp.length_eq
  have e16 : Int.tmod (now + 1) 16 = (now + 1) % 16 := Int.tmod_eq_emod_of_nonneg (by omega)
  have e256 : Int.tmod (now + 1) 256 = (now + 1) % 256 := Int.tmod_eq_emod_of_nonneg (by omega)
  have htm : Int.tmod (now + 1) 16 = 5 := e16.trans hp
  have hb : decide (Int.tmod (now + 1) 256 = 0) = false := decide_eq_false (by rw [e256]; omega)
  refine toIn 4 [] Tryz.func53 rfl (by kernel_rfl) (Nat.le_of_ble_eq_true rfl) (by decide) hG rfl hF ?_
  conv => whnf
  rw [hw]
  refine ⟨by decide, ?_⟩
  conv => whnf
  rw [hb]
  conv => whnf
  refine ⟨by decide, ?_⟩
  conv => whnf
  rw [htm]
  conv => whnf
  refine ⟨by decide, ?_⟩
  conv => whnf
  rw [htm]
  refine ⟨by decide, ?_⟩
  conv => whnf
  refine ⟨by decide, ?_⟩
  conv => whnf
  refine ⟨by decide, ?_⟩
  conv => whnf
  refine ⟨by decide, ?_⟩
  conv => whnf
  refine CallVC.cov (args1 := [.grow 4, .fn 67 [] []]) [(4, 10), (10, 70)] [10] ⟨[(4, .grow 4), (0, .loc 0 0)], WH (now + 1) (upd R 5 []) (R 5) U M c o2, 53, (upto 4 0, 4)⟩ ?_ ?_ (sortA_vc (L := R 5) (S := S) rfl hlen hS hSp ?_)
  · repeat' (first | exact trivial | exact .inl (DLe.refl _) | exact .inl (DLe.nil _ _) | (refine .inr ⟨rfl, _, ?_, rfl⟩; rfl) | exact rfl | exact Nat.zero_le _ | constructor)
    exact ho _ _ _
  · repeat' (first | exact trivial | exact .inl (DLe.refl _) | exact .inl (DLe.nil _ _) | (refine .inr ⟨rfl, _, ?_, rfl⟩; rfl) | exact rfl | exact Nat.zero_le _ | constructor)
  · conv => whnf
    refine ⟨Nat, fun i => ⟨[(64, intD i), (63, intD S.length), (62, .grow 4), (4, .grow 4), (0, .loc 0 0)], WH (now + 1) (upd R 5 []) S U (mdels (S.take i) M) c o2, 53, (upto 4 0, 4)⟩, fun i => i ≤ S.length, fun i => S.length - i, ⟨0, [], [], ?_, Nat.zero_le _⟩, ?_⟩
    · repeat' (first | exact trivial | exact .inl (DLe.refl _) | exact .inl (DLe.nil _ _) | (refine .inr ⟨rfl, _, ?_, rfl⟩; rfl) | exact rfl | exact Nat.zero_le _ | constructor)
      exact ho _ _ _
    · intro i hi
      conv => whnf
      refine Fork.intro (fun h1 => ?_) (fun h1 => ?_)
      · have hlt : (i : Int) < S.length := of_decide_eq_true h1
        conv => whnf
        refine ⟨rfl, ⟨by omega, hlt⟩, ?_⟩
        conv => whnf
        refine ⟨rfl, by show (i : Int).toNat < _; omega, fun a ha => ?_⟩
        have hak : S[i]? = some a := by simpa using ha
        conv => whnf
        refine op_delete rfl imap_ok rfl rfl rfl ?_
        conv => whnf
        rw [wrap_next (show i < S.length by omega) (by omega)]
        refine ⟨i + 1, [], [], ?_, by show i + 1 ≤ _; omega, by show S.length - (i + 1) < S.length - i; omega⟩
        show Cover _ _ _ ⟨_, WH _ _ _ _ (mdels (S.take (i + 1)) M) _ _, _, _⟩
        rw [take_snoc hak, mdels_snoc]
        repeat' (first | exact trivial | exact .inl (DLe.refl _) | exact .inl (DLe.nil _ _) | (refine .inr ⟨rfl, _, ?_, rfl⟩; rfl) | exact rfl | exact Nat.zero_le _ | constructor)
        exact ho _ _ _
      · have hge : ¬ (i : Int) < S.length := of_decide_eq_false h1
        have hil : S.take i = S := List.take_of_length_le (by omega)
        conv => whnf
        rw [hil]
        refine ⟨[], [], .grow 4, WH (now + 1) (upd R 5 []) S U (mdels S M) c o2, 53, ?_, hK⟩
        repeat' (first | exact trivial | exact .inl (DLe.refl _) | exact .inl (DLe.nil _ _) | (refine .inr ⟨rfl, _, ?_, rfl⟩; rfl) | exact rfl | exact Nat.zero_le _ | constructor)
        exact ho _ _ _

theorem tick_6 (F : List (Nat × D)) (now : Int) (R : Nat → List Al) (T U : List Al) (M : List ME) (c : Nat) (o2 : LO) (G : List Nat × Nat) (S : List Al) {K : D → St → Prop} (hF : F.all (fun p => cutOk 6 4 p.2) = true) (hG : Nat.ble G.2 4 = true) (ho : ∀ r z n, LOLe r z n o2 o2) (hn : 0 ≤ now ∧ now ≤ 1099511620000) (hp : (now + 1) % 16 = 6) (hlen : (R 6).length ≤ 1000000)
    (hS : S.Pairwise fun x y => x.id < y.id) (hSp : S.Perm (R 6)) (hK : K (.grow 4) ⟨F, WH (now + 1) (upd R 6 []) S U (mdels S M) c o2, 53, G⟩) : CallVC Tryz.prog false 53 [.loc 0 0] ⟨F, WH now R T U M c o2, 53, G⟩ K := by
  have hw : IntKind.i64.wrap (now + 1) = now + 1 := IntWalk.i64_in _ (by omega)
  have hSl := hSp.length_eq
  have e16 : Int.tmod (now + 1) 16 = (now + 1) % 16 := Int.tmod_eq_emod_of_nonneg (by omega)
  have e256 : Int.tmod (now + 1) 256 = (now + 1) % 256 := Int.tmod_eq_emod_of_nonneg (by omega)
  have htm : Int.tmod (now + 1) 16 = 6 := e16.trans hp
  have hb : decide (Int.tmod (now + 1) 256 = 0) = false := decide_eq_false (by rw [e256]; omega)
  refine toIn 4 [] Tryz.func53 rfl (by kernel_rfl) (Nat.le_of_ble_eq_true rfl) (by decide) hG rfl hF ?_
  conv => whnf
  rw [hw]
  refine ⟨by decide, ?_⟩
  conv => whnf
  rw [hb]
  conv => whnf
  refine ⟨by decide, ?_⟩
  conv => whnf
  rw [htm]
  conv => whnf
  refine ⟨by decide, ?_⟩
  conv => whnf
  rw [htm]
  refine ⟨by decide, ?_⟩
  conv => whnf
  refine ⟨by decide, ?_⟩
  conv => whnf
  refine ⟨by decide, ?_⟩
  conv => whnf
  refine ⟨by decide, ?_⟩
  conv => whnf
  refine CallVC.cov (args1 := [.grow 4, .fn 67 [] []]) [(4, 11), (11, 70)] [11] ⟨[(4, .grow 4), (0, .loc 0 0)], WH (now + 1) (upd R 6 []) (R 6) U M c o2, 53, (upto 4 0, 4)⟩ ?_ ?_ (sortA_vc (L := R 6) (S := S) rfl hlen hS hSp ?_)
  · repeat' (first | exact trivial | exact .inl (DLe.refl _) | exact .inl (DLe.nil _ _) | (refine .inr ⟨rfl, _, ?_, rfl⟩; rfl) | exact rfl | exact Nat.zero_le _ | constructor)
    exact ho _ _ _
  · repeat' (first | exact trivial | exact .inl (DLe.refl _) | exact .inl (DLe.nil _ _) | (refine .inr ⟨rfl, _, ?_, rfl⟩; rfl) | exact rfl | exact Nat.zero_le _ | constructor)
  · conv => whnf
    refine ⟨Nat, fun i => ⟨[(64, intD i), (63, intD S.length), (62, .grow 4), (4, .grow 4), (0, .loc 0 0)], WH (now + 1) (upd R 6 []) S U (mdels (S.take i) M) c o2, 53, (upto 4 0, 4)⟩, fun i => i ≤ S.length, fun i => S.length - i, ⟨0, [], [], ?_, Nat.zero_le _⟩, ?_⟩
    · repeat' (first | exact trivial | exact .inl (DLe.refl _) | exact .inl (DLe.nil _ _) | (refine .inr ⟨rfl, _, ?_, rfl⟩; rfl) | exact rfl | exact Nat.zero_le _ | constructor)
      exact ho _ _ _
    · intro i hi
      conv => whnf
      refine Fork.intro (fun h1 => ?_) (fun h1 => ?_)
      · have hlt : (i : Int) < S.length := of_decide_eq_true h1
        conv => whnf
        refine ⟨rfl, ⟨by omega, hlt⟩, ?_⟩
        conv => whnf
        refine ⟨rfl, by show (i : Int).toNat < _; omega, fun a ha => ?_⟩
        have hak : S[i]? = some a := by simpa using ha
        conv => whnf
        refine op_delete rfl imap_ok rfl rfl rfl ?_
        conv => whnf
        rw [wrap_next (show i < S.length by omega) (by omega)]
        refine ⟨i + 1, [], [], ?_, by show i + 1 ≤ _; omega, by show S.length - (i + 1) < S.length - i; omega⟩
        show Cover _ _ _ ⟨_, WH _ _ _ _ (mdels (S.take (i + 1)) M) _ _, _, _⟩
        rw [take_snoc hak, mdels_snoc]
        repeat' (first | exact trivial | exact .inl (DLe.refl _) | exact .inl (DLe.nil _ _) | (refine .inr ⟨rfl, _, ?_, rfl⟩; rfl) | exact rfl | exact Nat.zero_le _ | constructor)
        exact ho _ _ _
      · have hge : ¬ (i : Int) < S.length := of_decide_eq_false h1
        have hil : S.take i = S := List.take_of_length_le (by omega)
        conv => whnf
        rw [hil]
        refine ⟨[], [], .grow 4, WH (now + 1) (upd R 6 []) S U (mdels S M) c o2, 53, ?_, hK⟩
        repeat' (first | exact trivial | exact .inl (DLe.refl _) | exact .inl (DLe.nil _ _) | (refine .inr ⟨rfl, _, ?_, rfl⟩; rfl) | exact rfl | exact Nat.zero_le _ | constructor)
        exact ho _ _ _

theorem tick_7 (F : List (Nat × D)) (now : Int) (R : Nat → List Al) (T U : List Al) (M : List ME) (c : Nat) (o2 : LO) (G : List Nat × Nat) (S : List Al) {K : D → St → Prop} (hF : F.all (fun p => cutOk 6 4 p.2) = true) (hG : Nat.ble G.2 4 = true) (ho : ∀ r z n, LOLe r z n o2 o2) (hn : 0 ≤ now ∧ now ≤ 1099511620000) (hp : (now + 1) % 16 = 7) (hlen : (R 7).length ≤ 1000000)
    (hS : S.Pairwise fun x y => x.id < y.id) (hSp : S.Perm (R 7)) (hK : K (.grow 4) ⟨F, WH (now + 1) (upd R 7 []) S U (mdels S M) c o2, 53, G⟩) : CallVC Tryz.prog false 53 [.loc 0 0] ⟨F, WH now R T U M c o2, 53, G⟩ K := by
  have hw : IntKind.i64.wrap (now + 1) = now + 1 := IntWalk.i64_in _ (by omega)
  have hSl := hSp.length_eq
  have e16 : Int.tmod (now + 1) 16 = (now + 1) % 16 := Int.tmod_eq_emod_of_nonneg (by omega)
  have e256 : Int.tmod (now + 1) 256 = (now + 1) % 256 := Int.tmod_eq_emod_of_nonneg (by omega)
  have htm : Int.tmod (now + 1) 16 = 7 := e16.trans hp
  have hb : decide (Int.tmod (now + 1) 256 = 0) = false := decide_eq_false (by rw [e256]; omega)
  refine toIn 4 [] Tryz.func53 rfl (by kernel_rfl) (Nat.le_of_ble_eq_true rfl) (by decide) hG rfl hF ?_
  conv => whnf
  rw [hw]
  refine ⟨by decide, ?_⟩
  conv => whnf
  rw [hb]
  conv => whnf
  refine ⟨by decide, ?_⟩
  conv => whnf
  rw [htm]
  conv => whnf
  refine ⟨by decide, ?_⟩
  conv => whnf
  rw [htm]
  refine ⟨by decide, ?_⟩
  conv => whnf
  refine ⟨by decide, ?_⟩
  conv => whnf
  refine ⟨by decide, ?_⟩
  conv => whnf
  refine ⟨by decide, ?_⟩
  conv => whnf
  refine CallVC.cov (args1 := [.grow 4, .fn 67 [] []]) [(4, 12), (12, 70)] [12] ⟨[(4, .grow 4), (0, .loc 0 0)], WH (now + 1) (upd R 7 []) (R 7) U M c o2, 53, (upto 4 0, 4)⟩ ?_ ?_ (sortA_vc (L := R 7) (S := S) rfl hlen hS hSp ?_)
  · repeat' (first | exact trivial | exact .inl (DLe.refl _) | exact .inl (DLe.nil _ _) | (refine .inr ⟨rfl, _, ?_, rfl⟩; rfl) | exact rfl | exact Nat.zero_le _ | constructor)
    exact ho _ _ _
  · repeat' (first | exact trivial | exact .inl (DLe.refl _) | exact .inl (DLe.nil _ _) | (refine .inr ⟨rfl, _, ?_, rfl⟩; rfl) | exact rfl | exact Nat.zero_le _ | constructor)
  · conv => whnf
    refine ⟨Nat, fun i => ⟨[(64, intD i), (63, intD S.length), (62, .grow 4), (4, .grow 4), (0, .loc 0 0)], WH (now + 1) (upd R 7 []) S U (mdels (S.take i) M) c o2, 53, (upto 4 0, 4)⟩, fun i => i ≤ S.length, fun i => S.length - i, ⟨0, [], [], ?_, Nat.zero_le _⟩, ?_⟩
    · repeat' (first | exact trivial | exact .inl (DLe.refl _) | exact .inl (DLe.nil _ _) | (refine .inr ⟨rfl, _, ?_, rfl⟩; rfl) | exact rfl | exact Nat.zero_le _ | constructor)
      exact ho _ _ _
    · intro i hi
      conv => whnf
      refine Fork.intro (fun h1 => ?_) (fun h1 => ?_)
      · have hlt : (i : Int) < S.length := of_decide_eq_true h1
        conv => whnf
        refine ⟨rfl, ⟨by omega, hlt⟩, ?_⟩
        conv => whnf
        refine ⟨rfl, by show (i : Int).toNat < _; omega, fun a ha => ?_⟩
        have hak : S[i]? = some a := by simpa using ha
        conv => whnf
        refine op_delete rfl imap_ok rfl rfl rfl ?_
        conv => whnf
        rw [wrap_next (show i < S.length by omega) (by omega)]
        refine ⟨i + 1, [], [], ?_, by show i + 1 ≤ _; omega, by show S.length - (i + 1) < S.length - i; omega⟩
        show Cover _ _ _ ⟨_, WH _ _ _ _ (mdels (S.take (i + 1)) M) _ _, _, _⟩
        rw [take_snoc hak, mdels_snoc]
        repeat' (first | exact trivial | exact .inl (DLe.refl _) | exact .inl (DLe.nil _ _) | (refine .inr ⟨rfl, _, ?_, rfl⟩; rfl) | exact rfl | exact Nat.zero_le _ | constructor)
        exact ho _ _ _
      · have hge : ¬ (i : Int) < S.length := of_decide_eq_false h1
        have hil : S.take i = S := List.take_of_length_le (by omega)
        conv => whnf
        rw [hil]
        refine ⟨[], [], .grow 4, WH (now + 1) (upd R 7 []) S U (mdels S M) c o2, 53, ?_, hK⟩
        repeat' (first | exact trivial | exact .inl (DLe.refl _) | exact .inl (DLe.nil _ _) | (refine .inr ⟨rfl, _, ?_, rfl⟩; rfl) | exact rfl | exact Nat.zero_le _ | constructor)
        exact ho _ _ _

theorem tick_8 (F : List (Nat × D)) (now : Int) (R : Nat → List Al) (T U : List Al) (M : List ME) (c : Nat) (o2 : LO) (G : List Nat × Nat) (S : List Al) {K : D → St → Prop} (hF : F.all (fun p => cutOk 6 4 p.2) = true) (hG : Nat.ble G.2 4 = true) (ho : ∀ r z n, LOLe r z n o2 o2) (hn : 0 ≤ now ∧ now ≤ 1099511620000) (hp : (now + 1) % 16 = 8) (hlen : (R 8).length ≤ 1000000)
    (hS : S.Pairwise fun x y => x.id < y.id) (hSp : S.Perm (R 8)) (hK : K (.grow 4) ⟨F, WH (now + 1) (upd R 8 []) S U (mdels S M) c o2, 53, G⟩) : CallVC Tryz.prog false 53 [.loc 0 0] ⟨F, WH now R T U M c o2, 53, G⟩ K := by
  have hw : IntKind.i64.wrap (now + 1) = now + 1 := IntWalk.i64_in _ (by omega)
  have hSl := hSp.length_eq
  have e16 : Int.tmod (now + 1) 16 = (now + 1) % 16 := Int.tmod_eq_emod_of_nonneg (by omega)
  have e256 : Int.tmod (now + 1) 256 = (now + 1) % 256 := Int.tmod_eq_emod_of_nonneg (by omega)
  have htm : Int.tmod (now + 1) 16 = 8 := e16.trans hp
  have hb : decide (Int.tmod (now + 1) 256 = 0) = false := decide_eq_false (by rw [e256]; omega)
  refine toIn 4 [] Tryz.func53 rfl (by kernel_rfl) (Nat.le_of_ble_eq_true rfl) (by decide) hG rfl hF ?_
  conv => whnf
  rw [hw]
  refine ⟨by decide, ?_⟩
  conv => whnf
  rw [hb]
  conv => whnf
  refine ⟨by decide, ?_⟩
  conv => whnf
  rw [htm]
  conv => whnf
  refine ⟨by decide, ?_⟩
  conv => whnf
  rw [htm]
  refine ⟨by decide, ?_⟩
  conv => whnf
  refine ⟨by decide, ?_⟩
  conv => whnf
  refine ⟨by decide, ?_⟩
  conv => whnf
  refine ⟨by decide, ?_⟩
  conv => whnf
  refine CallVC.cov (args1 := [.grow 4, .fn 67 [] []]) [(4, 13), (13, 70)] [13] ⟨[(4, .grow 4), (0, .loc 0 0)], WH (now + 1) (upd R 8 []) (R 8) U M c o2, 53, (upto 4 0, 4)⟩ ?_ ?_ (sortA_vc (L := R 8) (S := S) rfl hlen hS hSp ?_)
  · repeat' (first | exact trivial | exact .inl (DLe.refl _) | exact .inl (DLe.nil _ _) | (refine .inr ⟨rfl, _, ?_, rfl⟩; rfl) | exact rfl | exact Nat.zero_le _ | constructor)
    exact ho _ _ _
  · repeat' (first | exact trivial | exact .inl (DLe.refl _) | exact .inl (DLe.nil _ _) | (refine .inr ⟨rfl, _, ?_, rfl⟩; rfl) | exact rfl | exact Nat.zero_le _ | constructor)
  · conv => whnf
    refine ⟨Nat, fun i => ⟨[(64, intD i), (63, intD S.length), (62, .grow 4), (4, .grow 4), (0, .loc 0 0)], WH (now + 1) (upd R 8 []) S U (mdels (S.take i) M) c o2, 53, (upto 4 0, 4)⟩, fun i => i ≤ S.length, fun i => S.length - i, ⟨0, [], [], ?_, Nat.zero_le _⟩, ?_⟩
    · repeat' (first | exact trivial | exact .inl (DLe.refl _) | exact .inl (DLe.nil _ _) | (refine .inr ⟨rfl, _, ?_, rfl⟩; rfl) | exact rfl | exact Nat.zero_le _ | constructor)
      exact ho _ _ _
    · intro i hi
      conv => whnf
      refine Fork.intro (fun h1 => ?_) (fun h1 => ?_)
      · have hlt : (i : Int) < S.length := of_decide_eq_true h1
        conv => whnf
        refine ⟨rfl, ⟨by omega, hlt⟩, ?_⟩
        conv => whnf
        refine ⟨rfl, by show (i : Int).toNat < _; omega, fun a ha => ?_⟩
        have hak : S[i]? = some a := by simpa using ha
        conv => whnf
        refine op_delete rfl imap_ok rfl rfl rfl ?_
        conv => whnf
        rw [wrap_next (show i < S.length by omega) (by omega)]
        refine ⟨i + 1, [], [], ?_, by show i + 1 ≤ _; omega, by show S.length - (i + 1) < S.length - i; omega⟩
        show Cover _ _ _ ⟨_, WH _ _ _ _ (mdels (S.take (i + 1)) M) _ _, _, _⟩
        rw [take_snoc hak, mdels_snoc]
        repeat' (first | exact trivial | exact .inl (DLe.refl _) | exact .inl (DLe.nil _ _) | (refine .inr ⟨rfl, _, ?_, rfl⟩; rfl) | exact rfl | exact Nat.zero_le _ | constructor)
        exact ho _ _ _
      · have hge : ¬ (i : Int) < S.length := of_decide_eq_false h1
        have hil : S.take i = S := List.take_of_length_le (by omega)
        conv => whnf
        rw [hil]
        refine ⟨[], [], .grow 4, WH (now + 1) (upd R 8 []) S U (mdels S M) c o2, 53, ?_, hK⟩
        repeat' (first | exact trivial | exact .inl (DLe.refl _) | exact .inl (DLe.nil _ _) | (refine .inr ⟨rfl, _, ?_, rfl⟩; rfl) | exact rfl | exact Nat.zero_le _ | constructor)
        exact ho _ _ _
end Go.Proofs.YtcbpdjikdohegaaGreat.V
