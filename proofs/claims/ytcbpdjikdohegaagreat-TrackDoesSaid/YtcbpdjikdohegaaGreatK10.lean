/-
  The wheel goes on by one tick, place by place. Conditions: ticks not too great, rows not too long.
  The wheel goes on by one tick, place by place. Conditions: ticks not too great, rows not too long.
-/
import Derived.Test.YtcbpdjikdohegaaGreatK8
namespace Go.Proofs.YtcbpdjikdohegaaGreat.V
open Go.RowKit
attribute [local irreducible] Fn FnN OpVC Ob RowFn

theorem tick_9 (F : List (Nat × D)) (now : Int) (R : Nat → List Al) (T U : List Al) (M : List ME) (c : Nat) (o2 : LO) (G : List Nat × Nat) (S : List Al) {K : D → St → Prop} (hF : F.all (fun p => cutOk 6 4 p.2) = true) (hG : Nat.ble G.2 4 = true) (ho : ∀ r z n, LOLe r z n o2 o2) (hn : 0 ≤ now ∧ now ≤ 1099511620000) (hp : (now + 1) % 16 = 9) (hlen : (R 9).length ≤ 1000000)
    (hS : S.Pairwise fun x y => x.id < y.id) (hSp : S.Perm (R 9)) (hK : K (.grow 4) ⟨F, WH (now + 1) (upd R 9 []) S U (mdels S M) c o2, 53, G⟩) : CallVC Tryz.prog false 53 [.loc 0 0] ⟨F, WH now R T U M c o2, 53, G⟩ K := by
  have hw : IntKind.i64.wrap (now + 1) = now + 1 := IntWalk.i64_in _ (by omega)
  have hSl := hSp.length_eq
  have e16 : Int.tmod (now + 1) 16 = (now + 1) % 16 := Int.tmod_eq_emod_of_nonneg (by omega)
  have e256 : Int.tmod (now + 1) 256 = (now + 1) % 256 := Int.tmod_eq_emod_of_nonneg (by omega)
  have htm : Int.tmod (now + 1) 16 = 9 := e16.trans hp
  have hb : decide (Int.tmod (now + 1) 256 = 0) = false := decide_eq_false (by rw [e256]; omega)
  refine toIn 4 [] Tryz.func53 rfl (by kernel_rfl) (Nat.le_of_ble_eq_true rfl) (by decide) hG rfl hF ?_
  conv => whnf
  rw [hw]
  refine ⟨by decide, ?_⟩
  conv => whnf
  rw [hb]
  conv => whnf
  refine ⟨by decide, ?_⟩
  conv => whnf
  rw [htm]
  conv => whnf
  refine ⟨by decide, ?_⟩
  conv => whnf
  rw [htm]
  refine ⟨by decide, ?_⟩
  conv => whnf
  refine ⟨by decide, ?_⟩
  conv => whnf
  refine ⟨by decide, ?_⟩
  conv => whnf
  refine ⟨by decide, ?_⟩
  conv => whnf
  refine CallVC.cov (args1 := [.grow 4, .fn 67 [] []]) [(4, 14), (14, 70)] [14] ⟨[(4, .grow 4), (0, .loc 0 0)], WH (now + 1) (upd R 9 []) (R 9) U M c o2, 53, (upto 4 0, 4)⟩ ?_ ?_ (sortA_vc (L := R 9) (S := S) rfl hlen hS hSp ?_)
  · repeat' (first | exact trivial | exact .inl (DLe.refl _) | exact .inl (DLe.nil _ _) | (refine .inr ⟨rfl, _, ?_, rfl⟩; rfl) | exact rfl | exact Nat.zero_le _ | constructor)
    exact ho _ _ _
  · repeat' (first | exact trivial | exact .inl (DLe.refl _) | exact .inl (DLe.nil _ _) | (refine .inr ⟨rfl, _, ?_, rfl⟩; rfl) | exact rfl | exact Nat.zero_le _ | constructor)
  · conv => whnf
    refine ⟨Nat, fun i => ⟨[(64, intD i), (63, intD S.length), (62, .grow 4), (4, .grow 4), (0, .loc 0 0)], WH (now + 1) (upd R 9 []) S U (mdels (S.take i) M) c o2, 53, (upto 4 0, 4)⟩, fun i => i ≤ S.length, fun i => S.length - i, ⟨0, [], [], ?_, Nat.zero_le _⟩, ?_⟩
    · repeat' (first | exact trivial | exact .inl (DLe.refl _) | exact .inl (DLe.nil _ _) | (refine .inr ⟨rfl, _, ?_, rfl⟩; rfl) | exact rfl | exact Nat.zero_le _ | constructor)
      exact ho _ _ _
    · intro i hi
      conv => whnf
      refine Fork.intro (fun h1 => ?_) (fun h1 => ?_)
      · have hlt : (i : Int) < S.length := of_decide_eq_true h1
        conv => whnf
        refine ⟨rfl, ⟨by omega, hlt⟩, ?_⟩
        conv => whnf
        refine ⟨rfl, by show (i : Int).toNat < _; omega, fun a ha => ?_⟩
        have hak : S[i]? = some a := by simpa using ha
        conv => whnf
        refine op_delete rfl imap_ok rfl rfl rfl ?_
        conv => whnf
        rw [wrap_next (show i < S.length by omega) (by omega)]
        refine ⟨i + 1, [], [], ?_, by show i + 1 ≤ _; omega, by show S.length - (i + 1) < S.length - i; omega⟩
        show Cover _ _ _ ⟨_, WH _ _ _ _ (mdels (S.take (i + 1)) M) _ _, _, _⟩
        rw [take_snoc hak, mdels_snoc]
        repeat' (first | exact trivial | exact .inl (DLe.refl _) | exact .inl (DLe.nil _ _) | (refine .inr ⟨rfl, _, ?_, rfl⟩; rfl) | exact rfl | exact Nat.zero_le _ | constructor)
        exact ho _ _ _
      · have hge : ¬ (i : Int) < S.length := of_decide_eq_false h1
        have hil : S.take i = S := List.take_of_length_le (by omega)
        conv => whnf
        rw [hil]
        refine ⟨[], [], .grow 4, WH (now + 1) (upd R 9 []) S U (mdels S M) c o2, 53, ?_, hK⟩
        repeat' (first | exact trivial | exact .inl (DLe.refl _) | exact .inl (DLe.nil _ _) | (refine .inr ⟨rfl, _, ?_, rfl⟩; rfl) | exact rfl | exact Nat.zero_le _ | constructor)
        exact ho _ _ _

theorem tick_10 (F : List (Nat × D)) (now : Int) (R : Nat → List Al) (T U : List Al) (M : List ME) (c : Nat) (o2 : LO) (G : List Nat × Nat) (S : List Al) {K : D → St → Prop} (hF : F.all (fun p => cutOk 6 4 p.2) = true) (hG : Nat.ble G.2 4 = true) (ho : ∀ r z n, LOLe r z n o2 o2) (hn : 0 ≤ now ∧ now ≤ 1099511620000) (hp : (now + 1) % 16 = 10) (hlen : (R 10).length ≤ 1000000)
    (hS : S.Pairwise fun x y => x.id < y.id) (hSp : S.Perm (R 10)) (hK : K (.grow 4) ⟨F, WH (now + 1) (upd R 10 []) S U (mdels S M) c o2, 53, G⟩) : CallVC Tryz.prog false 53 [.loc 0 0] ⟨F, WH now R T U M c o2, 53, G⟩ K := by
  have hw : IntKind.i64.wrap (now + 1) = now + 1 := IntWalk.i64_in _ (by omega)
  have hSl := hSp.length_eq
  have e16 : Int.tmod (now + 1) 16 = (now + 1) % 16 := Int.tmod_eq_emod_of_nonneg (by omega)
  have e256 : Int.tmod (now + 1) 256 = (now + 1) % 256 := Int.tmod_eq_emod_of_nonneg (by omega)
  have htm : Int.tmod (now + 1) 16 = 10 := e16.trans hp
  have hb : decide (Int.tmod (now + 1) 256 = 0) = false := decide_eq_false (by rw [e256]; omega)
  refine toIn 4 [] Tryz.func53 rfl (by kernel_rfl) (Nat.le_of_ble_eq_true rfl) (by decide) hG rfl hF ?_
  conv => whnf
  rw [hw]
  refine ⟨by decide, ?_⟩
  conv => whnf
  rw [hb]
  conv => whnf
  refine ⟨by decide, ?_⟩
  conv => whnf
  rw [htm]
  conv => whnf
  refine ⟨by decide, ?_⟩
  conv => whnf
  rw [htm]
  refine ⟨by decide, ?_⟩
  conv => whnf
  refine ⟨by decide, ?_⟩
  conv => whnf
  refine ⟨by decide, ?_⟩
  conv => whnf
  refine ⟨by decide, ?_⟩
  conv => whnf
  refine CallVC.cov (args1 := [.grow 4, .fn 67 [] []]) [(4, 15), (15, 70)] [15] ⟨[(4, .grow 4), (0, .loc 0 0)], WH (now + 1) (upd R 10 []) (R 10) U M c o2, 53, (upto 4 0, 4)⟩ ?_ ?_ (sortA_vc (L := R 10) (S := S) rfl hlen hS hSp ?_)
  · repeat' (first | exact trivial | exact .inl (DLe.refl _) | exact .inl (DLe.nil _ _) | (refine .inr ⟨rfl, _, ?_, rfl⟩; rfl) | exact rfl | exact Nat.zero_le _ | constructor)
    exact ho _ _ _
  · repeat' (first | exact trivial | exact .inl (DLe.refl _) | exact .inl (DLe.nil _ _) | (refine .inr ⟨rfl, _, ?_, rfl⟩; rfl) | exact rfl | exact Nat.zero_le _ | constructor)
  · conv => whnf
    refine ⟨Nat, fun i => ⟨[(64, intD i), (63, intD S.length), (62, .grow 4), (4, .grow 4), (0, .loc 0 0)], WH (now + 1) (upd R 10 []) S U (mdels (S.take i) M) c o2, 53, (upto 4 0, 4)⟩, fun i => i ≤ S.length, fun i => S.length - i, ⟨0, [], [], ?_, Nat.zero_le _⟩, ?_⟩
    · repeat' (first | exact trivial | exact .inl (DLe.refl _) | exact .inl (DLe.nil _ _) | (refine .inr ⟨rfl, _, ?_, rfl⟩; rfl) | exact rfl | exact Nat.zero_le _ | constructor)
      exact ho _ _ _
    · intro i hi
      conv => whnf
      refine Fork.intro (fun h1 => ?_) (fun h1 => ?_)
      · have hlt : (i : Int) < S.length := of_decide_eq_true h1
        conv => whnf
        refine ⟨rfl, ⟨by omega, hlt⟩, ?_⟩
        conv => whnf
        refine ⟨rfl, by show (i : Int).toNat < _; omega, fun a ha => ?_⟩
        have hak : S[i]? = some a := by simpa using ha
        conv => whnf
        refine op_delete rfl imap_ok rfl rfl rfl ?_
        conv => whnf
        rw [wrap_next (show i < S.length by omega) (by omega)]
        refine ⟨i + 1, [], [], ?_, by show i + 1 ≤ _; omega, by show S.length - (i + 1) < S.length - i; omega⟩
        show Cover _ _ _ ⟨_, WH _ _ _ _ (mdels (S.take (i + 1)) M) _ _, _, _⟩
        rw [take_snoc hak, mdels_snoc]
        repeat' (first | exact trivial | exact .inl (DLe.refl _) | exact .inl (DLe.nil _ _) | (refine .inr ⟨rfl, _, ?_, rfl⟩; rfl) | exact rfl | exact Nat.zero_le _ | constructor)
        exact ho _ _ _
      · have hge : ¬ (i : Int) < S.length := of_decide_eq_false h1
        have hil : S.take i = S := List.take_of_length_le (by omega)
        conv => whnf
        rw [hil]
        refine ⟨[], [], .grow 4, WH (now + 1) (upd R 10 []) S U (mdels S M) c o2, 53, ?_, hK⟩
        repeat' (first | exact trivial | exact .inl (DLe.refl _) | exact .inl (DLe.nil _ _) | (refine .inr ⟨rfl, _, ?_, rfl⟩; rfl) | exact rfl | exact Nat.zero_le _ | constructor)
        exact ho _ _ _

theorem tick_11 (F : List (Nat × D)) (now : Int) (R : Nat → List Al) (T U : List Al) (M : List ME) (c : Nat) (o2 : LO) (G : List Nat × Nat) (S : List Al) {K : D → St → Prop} (hF : F.all (fun p => cutOk 6 4 p.2) = true) (hG : Nat.ble G.2 4 = true) (ho : ∀ r z n, LOLe r z n o2 o2) (hn : 0 ≤ now ∧ now ≤ 1099511620000) (hp : (now + 1) % 16 = 11) (hlen : (R 11).length ≤ 1000000)
    (hS : S.Pairwise fun x y => x.id < y.id) (hSp : S.Perm (R 11)) (hK : K (.grow 4) ⟨F, WH (now + 1) (upd R 11 []) S U (mdels S M) c o2, 53, G⟩) : CallVC Tryz.prog false 53 [.loc 0 0] ⟨F, WH now R T U M c o2, 53, G⟩ K := by
  have hw : IntKind.i64.wrap (now + 1) = now + 1 := IntWalk.i64_in _ (by omega)
  have hSl := hSp.length_eq
  have e16 : Int.tmod (now + 1) 16 = (now + 1) % 16 := Int.tmod_eq_emod_of_nonneg (by omega)
  have e256 : Int.tmod (now + 1) 256 = (now + 1) % 256 := Int.tmod_eq_emod_of_nonneg (by omega)
  have htm : Int.tmod (now + 1) 16 = 11 := e16.trans hp
  have hb : decide (Int.tmod (now + 1) 256 = 0) = false := decide_eq_false (by rw [e256]; omega)
  refine toIn 4 [] Tryz.func53 rfl (by kernel_rfl) (Nat.le_of_ble_eq_true rfl) (by decide) hG rfl hF ?_
  conv => whnf
  rw [hw]
  refine ⟨by decide, ?_⟩
  conv => whnf
  rw [hb]
  conv => whnf
  refine ⟨by decide, ?_⟩
  conv => whnf
  rw [htm]
  conv => whnf
  refine ⟨by decide, ?_⟩
  conv => whnf
  rw [htm]
  refine ⟨by decide, ?_⟩
  conv => whnf
  refine ⟨by decide, ?_⟩
  conv => whnf
  refine ⟨by decide, ?_⟩
  conv => whnf
  refine ⟨by decide, ?_⟩
  conv => whnf
  refine CallVC.cov (args1 := [.grow 4, .fn 67 [] []]) [(4, 16), (16, 70)] [16] ⟨[(4, .grow 4), (0, .loc 0 0)], WH (now + 1) (upd R 11 []) (R 11) U M c o2, 53, (upto 4 0, 4)⟩ ?_ ?_ (sortA_vc (L := R 11) (S := S) rfl hlen hS hSp ?_)
  · repeat' (first | exact trivial | exact .inl (DLe.refl _) | exact .inl (DLe.nil _ _) | (refine .inr ⟨rfl, _, ?_, rfl⟩; rfl) | exact rfl | exact Nat.zero_le _ | constructor)
    exact ho _ _ _
  · repeat' (first | exact trivial | exact .inl (DLe.refl _) | exact .inl (DLe.nil _ _) | (refine .inr ⟨rfl, _, ?_, rfl⟩; rfl) | exact rfl | exact Nat.zero_le _ | constructor)
  · conv => whnf
    refine ⟨Nat, fun i => ⟨[(64, intD i), (63, intD S.length), (62, .grow 4), (4, .grow 4), (0, .loc 0 0)], WH (now + 1) (upd R 11 []) S U (mdels (S.take i) M) c o2, 53, (upto 4 0, 4)⟩, fun i => i ≤ S.length, fun i => S.length - i, ⟨0, [], [], ?_, Nat.zero_le _⟩, ?_⟩
    · repeat' (first | exact trivial | exact .inl (DLe.refl _) | exact .inl (DLe.nil _ _) | (refine .inr ⟨rfl, _, ?_, rfl⟩; rfl) | exact rfl | exact Nat.zero_le _ | constructor)
      exact ho _ _ _
    · intro i hi
      conv => whnf
      refine Fork.intro (fun h1 => ?_) (fun h1 => ?_)
      · have hlt : (i : Int) < S.length := of_decide_eq_true h1
        conv => whnf
        refine ⟨rfl, ⟨by omega, hlt⟩, ?_⟩
        conv => whnf
        refine ⟨rfl, by show (i : Int).toNat < _; omega, fun a ha => ?_⟩
        have hak : S[i]? = some a := by simpa using ha
        conv => whnf
        refine op_delete rfl imap_ok rfl rfl rfl ?_
        conv => whnf
        rw [wrap_next (show i < S.length by omega) (by omega)]
        refine ⟨i + 1, [], [], ?_, by show i + 1 ≤ _; omega, by show S.length - (i + 1) < S.length - i; omega⟩
        show Cover _ _ _ ⟨_, WH _ _ _ _ (mdels (S.take (i + 1)) M) _ _, _, _⟩
        rw [take_snoc hak, mdels_snoc]
        repeat' (first | exact trivial | exact .inl (DLe.refl _) | exact .inl (DLe.nil _ _) | (refine .inr ⟨rfl, _, ?_, rfl⟩; rfl) | exact rfl | exact Nat.zero_le _ | constructor)
        exact ho _ _ _
      · have hge : ¬ (i : Int) < S.length := of_decide_eq_false h1
        have hil : S.take i = S := List.take_of_length_le (by omega)
        conv => whnf
        rw [hil]
        refine ⟨[], [], .grow 4, WH (now + 1) (upd R 11 []) S U (mdels S M) c o2, 53, ?_, hK⟩
        repeat' (first | exact trivial | exact .inl (DLe.refl _) | exact .inl (DLe.nil _ _) | (refine .inr ⟨rfl, _, ?_, rfl⟩; rfl) | exact rfl | exact Nat.zero_le _ | constructor)
        exact ho _ _ _

theorem tick_12 (F : List (Nat × D)) (now : Int) (R : Nat → List Al) (T U : List Al) (M : List ME) (c : Nat) (o2 : LO) (G : List Nat × Nat) (S : List Al) {K : D → St → Prop} (hF : F.all (fun p => cutOk 6 4 p.2) = true) (hG : Nat.ble G.2 4 = true) (ho : ∀ r z n, LOLe r z n o2 o2) (hn : 0 ≤ now ∧ now ≤ 1099511620000) (hp : (now + 1) % 16 = 12) (hlen : (R 12).length ≤ 1000000)
    (hS : S.Pairwise fun x y => x.id < y.id) (hSp : S.Perm (R 12)) (hK : K (.grow 4) ⟨F, WH (now + 1) (upd R 12 []) S U (mdels S M) c o2, 53, G⟩) : CallVC Tryz.prog false 53 [.loc 0 0] ⟨F, WH now R T U M c o2, 53, G⟩ K := by
  have hw : IntKind.i64.wrap (now + 1) = now + 1 := IntWalk.i64_in _ (by omega)
  have hSl := hSp.length_eq
  have e16 : Int.tmod (now + 1) 16 = (now + 1) % 16 := Int.tmod_eq_emod_of_nonneg (by omega)
  have e256 : Int.tmod (now + 1) 256 = (now + 1) % 256 := Int.tmod_eq_emod_of_nonneg (by omega)
  have htm : Int.tmod (now + 1) 16 = 12 := e16.trans hp
  have hb : decide (Int.tmod (now + 1) 256 = 0) = false := decide_eq_false (by rw [e256]; omega)
  refine toIn 4 [] Tryz.func53 rfl (by kernel_rfl) (Nat.le_of_ble_eq_true rfl) (by decide) hG rfl hF ?_
  conv => whnf
  rw [hw]
  refine ⟨by decide, ?_⟩
  conv => whnf
  rw [hb]
  conv => whnf
  refine ⟨by decide, ?_⟩
  conv => whnf
  rw [htm]
  conv => whnf
  refine ⟨by decide, ?_⟩
  conv => whnf
  rw [htm]
  refine ⟨by decide, ?_⟩
  conv => whnf
  refine ⟨by decide, ?_⟩
  conv => whnf
  refine ⟨by decide, ?_⟩
  conv => whnf
  refine ⟨by decide, ?_⟩
  conv => whnf
  refine CallVC.cov (args1 := [.grow 4, .fn 67 [] []]) [(4, 17), (17, 70)] [17] ⟨[(4, .grow 4), (0, .loc 0 0)], WH (now + 1) (upd R 12 []) (R 12) U M c o2, 53, (upto 4 0, 4)⟩ ?_ ?_ (sortA_vc (L := R 12) (S := S) rfl hlen hS hSp ?_)
  · repeat' (first | exact trivial | exact .inl (DLe.refl _) | exact .inl (DLe.nil _ _) | (refine .inr ⟨rfl, _, ?_, rfl⟩; rfl) | exact rfl | exact Nat.zero_le _ | constructor)
    exact ho _ _ _
  · repeat' (first | exact trivial | exact .inl (DLe.refl _) | exact .inl (DLe.nil _ _) | (refine .inr ⟨rfl, _, ?_, rfl⟩; rfl) | exact rfl | exact Nat.zero_le _ | constructor)
  · conv => whnf
    refine ⟨Nat, fun i => ⟨[(64, intD i), (63, intD S.length), (62, .grow 4), (4, .grow 4), (0, .loc 0 0)], WH (now + 1) (upd R 12 []) S U (mdels (S.take i) M) c o2, 53, (upto 4 0, 4)⟩, fun i => i ≤ S.length, fun i => S.length - i, ⟨0, [], [], ?_, Nat.zero_le _⟩, ?_⟩
    · repeat' (first | exact trivial | exact .inl (DLe.refl _) | exact .inl (DLe.nil _ _) | (refine .inr ⟨rfl, _, ?_, rfl⟩; rfl) | exact rfl | exact Nat.zero_le _ | constructor)
      exact ho _ _ _
    · intro i hi
      conv => whnf
      refine Fork.intro (fun h1 => ?_) (fun h1 => ?_)
      · have hlt : (i : Int) < S.length := of_decide_eq_true h1
        conv => whnf
        refine ⟨rfl, ⟨by omega, hlt⟩, ?_⟩
        conv => whnf
        refine ⟨rfl, by show (i : Int).toNat < _; omega, fun a ha => ?_⟩
        have hak : S[i]? = some a := by simpa using ha
        conv => whnf
        refine op_delete rfl imap_ok rfl rfl rfl ?_
        conv => whnf
        rw [wrap_next (show i < S.length by omega) (by omega)]
        refine ⟨i + 1, [], [], ?_, by show i + 1 ≤ _; omega, by show S.length - (i + 1) < S.length - i; omega⟩
        show Cover _ _ _ ⟨_, WH _ _ _ _ (mdels (S.take (i + 1)) M) _ _, _, _⟩
        rw [take_snoc hak, mdels_snoc]
        repeat' (first | exact trivial | exact .inl (DLe.refl _) | exact .inl (DLe.nil _ _) | (refine .inr ⟨rfl, _, ?_, rfl⟩; rfl) | exact rfl | exact Nat.zero_le _ | constructor)
        exact ho _ _ _
      · have hge : ¬ (i : Int) < S.length := of_decide_eq_false h1
        have hil : S.take i = S := List.take_of_length_le (by omega)
        conv => whnf
        rw [hil]
        refine ⟨[], [], .grow 4, WH (now + 1) (upd R 12 []) S U (mdels S M) c o2, 53, ?_, hK⟩
        repeat' (first | exact trivial | exact .inl (DLe.refl _) | exact .inl (DLe.nil _ _) | (refine .inr ⟨rfl, _, ?_, rfl⟩; rfl) | exact rfl | exact Nat.zero_le _ | constructor)
        exact ho _ _ _
end Go.Proofs.YtcbpdjikdohegaaGreat.V
namespace Go.Proofs.YtcbpdjikdohegaaGreat.V
open Go.RowKit
attribute [local irreducible] Fn FnN OpVC Ob RowFn

theorem tick_13 (F : List (Nat × D)) (now : Int) (R : Nat → List Al) (T U : List Al) (M : List ME) (c : Nat) (o2 : LO) (G : List Nat × Nat) (S : List Al) {K : D → St → Prop} (hF : F.all (fun p => cutOk 6 4 p.2) = true) (hG : Nat.ble G.2 4 = true) (ho : ∀ r z n, LOLe r z n o2 o2) (hn : 0 ≤ now ∧ now ≤ 1099511620000) (hp : (now + 1) % 16 = 13) (hlen : (R 13).length ≤ 1000000)
    (hS : S.Pairwise fun x y => x.id < y.id) (hSp : S.Perm (R 13)) (hK : K (.grow 4) ⟨F, WH (now + 1) (upd R 13 []) S U (mdels S M) c o2, 53, G⟩) : CallVC Tryz.prog false 53 [.loc 0 0] ⟨F, WH now R T U M c o2, 53, G⟩ K := by
  have hw : IntKind.i64.wrap (now + 1) = now + 1 := IntWalk.i64_in _ (by omega)
  have hSl := hSp.length_eq
  have e16 : Int.tmod (now + 1) 16 = (now + 1) % 16 := Int.tmod_eq_emod_of_nonneg (by omega)
  have e256 : Int.tmod (now + 1) 256 = (now + 1) % 256 := Int.tmod_eq_emod_of_nonneg (by omega)
  have htm : Int.tmod (now + 1) 16 = 13 := e16.trans hp
  have hb : decide (Int.tmod (now + 1) 256 = 0) = false := decide_eq_false (by rw [e256]; omega)
  refine toIn 4 [] Tryz.func53 rfl (by kernel_rfl) (Nat.le_of_ble_eq_true rfl) (by decide) hG rfl hF ?_
  conv => whnf
  rw [hw]
  refine ⟨by decide, ?_⟩
  conv => whnf
  rw [hb]
  conv => whnf
  refine ⟨by decide, ?_⟩
  conv => whnf
  rw [htm]
  conv => whnf
  refine ⟨by decide, ?_⟩
  conv => whnf
  rw [htm]
  refine ⟨by decide, ?_⟩
  conv => whnf
  refine ⟨by decide, ?_⟩
  conv => whnf
  refine ⟨by decide, ?_⟩
  conv => whnf
  refine ⟨by decide, ?_⟩
  conv => whnf
  refine CallVC.cov (args1 := [.grow 4, .fn 67 [] []]) [(4, 18), (18, 70)] [18] ⟨[(4, .grow 4), (0, .loc 0 0)], WH (now + 1) (upd R 13 []) (R 13) U M c o2, 53, (upto 4 0, 4)⟩ ?_ ?_ (sortA_vc (L := R 13) (S := S) rfl hlen hS hSp ?_)
  · repeat' (first | exact trivial | exact .inl (DLe.refl _) | exact .inl (DLe.nil _ _) | (refine .inr ⟨rfl, _, ?_, rfl⟩; rfl) | exact rfl | exact Nat.zero_le _ | constructor)
    exact ho _ _ _
  · repeat' (first | exact trivial | exact .inl (DLe.refl _) | exact .inl (DLe.nil _ _) | (refine .inr ⟨rfl, _, ?_, rfl⟩; rfl) | exact rfl | exact Nat.zero_le _ | constructor)
  · conv => whnf
    refine ⟨Nat, fun i => ⟨[(64, intD i), (63, intD S.length), (62, .grow 4), (4, .grow 4), (0, .loc 0 0)], WH (now + 1) (upd R 13 []) S U (mdels (S.take i) M) c o2, 53, (upto 4 0, 4)⟩, fun i => i ≤ S.length, fun i => S.length - i, ⟨0, [], [], ?_, Nat.zero_le _⟩, ?_⟩
    · repeat' (first | exact trivial | exact .inl (DLe.refl _) | exact .inl (DLe.nil _ _) | (refine .inr ⟨rfl, _, ?_, rfl⟩; rfl) | exact rfl | exact Nat.zero_le _ | constructor)
      exact ho _ _ _
    · intro i hi
      conv => whnf
      refine Fork.intro (fun h1 => ?_) (fun h1 => ?_)
      · have hlt : (i : Int) < S.length := of_decide_eq_true h1
        conv => whnf
        refine ⟨rfl, ⟨by omega, hlt⟩, ?_⟩
        conv => whnf
        refine ⟨rfl, by show (i : Int).toNat < _; omega, fun a ha => ?_⟩
        have hak : S[i]? = some a := by simpa using ha
        conv => whnf
        refine op_delete rfl imap_ok rfl rfl rfl ?_
        conv => whnf
        rw [wrap_next (show i < S.length by omega) (by omega)]
        refine ⟨i + 1, [], [], ?_, by show i + 1 ≤ _; omega, by show S.length - (i + 1) < S.length - i; omega⟩
        show Cover _ _ _ ⟨_, WH _ _ _ _ (mdels (S.take (i + 1)) M) _ _, _, _⟩
        rw [take_snoc hak, mdels_snoc]
        repeat' (first | exact trivial | exact .inl (DLe.refl _) | exact .inl (DLe.nil _ _) | (refine .inr ⟨rfl, _, ?_, rfl⟩; rfl) | exact rfl | exact Nat.zero_le _ | constructor)
        exact ho _ _ _
      · have hge : ¬ (i : Int) < S.length := of_decide_eq_false h1
        have hil : S.take i = S := List.take_of_length_le (by omega)
        conv => whnf
        rw [hil]
        refine ⟨[], [], .grow 4, WH (now + 1) (upd R 13 []) S U (mdels S M) c o2, 53, ?_, hK⟩
        repeat' (first | exact trivial | exact .inl (DLe.refl _) | exact .inl (DLe.nil _ _) | (refine .inr ⟨rfl, _, ?_, rfl⟩; rfl) | exact rfl | exact Nat.zero_le _ | constructor)
        exact ho _ _ _

theorem tick_14 (F : List (Nat × D)) (now : Int) (R : Nat → List Al) (T U : List Al) (M : List ME) (c : Nat) (o2 : LO) (G : List Nat × Nat) (S : List Al) {K : D → St → Prop} (hF : F.all (fun p => cutOk 6 4 p.2) = true) (hG : Nat.ble G.2 4 = true) (ho : ∀ r z n, LOLe r z n o2 o2) (hn : 0 ≤ now ∧ now ≤ 1099511620000) (hp : (now + 1) % 16 = 14) (hlen : (R 14).length ≤ 1000000)
    (hS : S.Pairwise fun x y => x.id < y.id) (hSp : S.Perm (R 14)) (hK : K (.grow 4) ⟨F, WH (now + 1) (upd R 14 []) S U (mdels S M) c o2, 53, G⟩) : CallVC Tryz.prog false 53 [.loc 0 0] ⟨F, WH now R T U M c o2, 53, G⟩ K := by
  have hw : IntKind.i64.wrap (now + 1) = now + 1 := IntWalk.i64_in _ (by omega)
  have hSl := hSp.length_eq
  have e16 : Int.tmod (now + 1) 16 = (now + 1) % 16 := Int.tmod_eq_emod_of_nonneg (by omega)
  have e256 : Int.tmod (now + 1) 256 = (now + 1) % 256 := Int.tmod_eq_emod_of_nonneg (by omega)
  have htm : Int.tmod (now + 1) 16 = 14 := e16.trans hp
  have hb : decide (Int.tmod (now + 1) 256 = 0) = false := decide_eq_false (by rw [e256]; omega)
  refine toIn 4 [] Tryz.func53 rfl (by kernel_rfl) (Nat.le_of_ble_eq_true rfl) (by decide) hG rfl hF ?_
  conv => whnf
  rw [hw]
  refine ⟨by decide, ?_⟩
  conv => whnf
  rw [hb]
  conv => whnf
  refine ⟨by decide, ?_⟩
  conv => whnf
  rw [htm]
  conv => whnf
  refine ⟨by decide, ?_⟩
  conv => whnf
  rw [htm]
  refine ⟨by decide, ?_⟩
  conv => whnf
  refine ⟨by decide, ?_⟩
  conv => whnf
  refine ⟨by decide, ?_⟩
  conv => whnf
  refine ⟨by decide, ?_⟩
  conv => whnf
  refine CallVC.cov (args1 := [.grow 4, .fn 67 [] []]) [(4, 19), (19, 70)] [19] ⟨[(4, .grow 4), (0, .loc 0 0)], WH (now + 1) (upd R 14 []) (R 14) U M c o2, 53, (upto 4 0, 4)⟩ ?_ ?_ (sortA_vc (L := R 14) (S := S) rfl hlen hS hSp ?_)
  · repeat' (first | exact trivial | exact .inl (DLe.refl _) | exact .inl (DLe.nil _ _) | (refine .inr ⟨rfl, _, ?_, rfl⟩; rfl) | exact rfl | exact Nat.zero_le _ | constructor)
    exact ho _ _ _
  · repeat' (first | exact trivial | exact .inl (DLe.refl _) | exact .inl (DLe.nil _ _) | (refine .inr ⟨rfl, _, ?_, rfl⟩; rfl) | exact rfl | exact Nat.zero_le _ | constructor)
  · conv => whnf
    refine ⟨Nat, fun i => ⟨[(64, intD i), (63, intD S.length), (62, .grow 4), (4, .grow 4), (0, .loc 0 0)], WH (now + 1) (upd R 14 []) S U (mdels (S.take i) M) c o2, 53, (upto 4 0, 4)⟩, fun i => i ≤ S.length, fun i => S.length - i, ⟨0, [], [], ?_, Nat.zero_le _⟩, ?_⟩
    · repeat' (first | exact trivial | exact .inl (DLe.refl _) | exact .inl (DLe.nil _ _) | (refine .inr ⟨rfl, _, ?_, rfl⟩; rfl) | exact rfl | exact Nat.zero_le _ | constructor)
      exact ho _ _ _
    · intro i hi
      conv => whnf
      refine Fork.intro (fun h1 => ?_) (fun h1 => ?_)
      · have hlt : (i : Int) < S.length := of_decide_eq_true h1
        conv => whnf
        refine ⟨rfl, ⟨by omega, hlt⟩, ?_⟩
        conv => whnf
        refine ⟨rfl, by show (i : Int).toNat < _; omega, fun a ha => ?_⟩
        have hak : S[i]? = some a := by simpa using ha
        conv => whnf
        refine op_delete rfl imap_ok rfl rfl rfl ?_
        conv => whnf
        rw [wrap_next (show i < S.length by omega) (by omega)]
        refine ⟨i + 1, [], [], ?_, by show i + 1 ≤ _; omega, by show S.length - (i + 1) < S.length - i; omega⟩
        show Cover _ _ _ ⟨_, WH _ _ _ _ (mdels (S.take (i + 1)) M) _ _, _, _⟩
        rw [take_snoc hak, mdels_snoc]
        repeat' (first | exact trivial | exact .inl (DLe.refl _) | exact .inl (DLe.nil _ _) | (refine .inr ⟨rfl, _, ?_, rfl⟩; rfl) | exact rfl | exact Nat.zero_le _ | constructor)
        exact ho _ _ _
      · have hge : ¬ (i : Int) < S.length := of_decide_eq_false h1
        have hil : S.take i = S := List.take_of_length_le (by omega)
        conv => whnf
        rw [hil]
        refine ⟨[], [], .grow 4, WH (now + 1) (upd R 14 []) S U (mdels S M) c o2, 53, ?_, hK⟩
        repeat' (first | exact trivial | exact .inl (DLe.refl _) | exact .inl (DLe.nil _ _) | (refine .inr ⟨rfl, _, ?_, rfl⟩; rfl) | exact rfl | exact Nat.zero_le _ | constructor)
        exact ho _ _ _

theorem tick_15 (F : List (Nat × D)) (now : Int) (R : Nat → List Al) (T U : List Al) (M : List ME) (c : Nat) (o2 : LO) (G : List Nat × Nat) (S : List Al) {K : D → St → Prop} (hF : F.all (fun p => cutOk 6 4 p.2) = true) (hG : Nat.ble G.2 4 = true) (ho : ∀ r z n, LOLe r z n o2 o2) (hn : 0 ≤ now ∧ now ≤ 1099511620000) (hp : (now + 1) % 16 = 15) (hlen : (R 15).length ≤ 1000000)
    (hS : S.Pairwise fun x y => x.id < y.id) (hSp : S.Perm (R 15)) (hK : K (.grow 4) ⟨F, WH (now + 1) (upd R 15 []) S U (mdels S M) c o2, 53, G⟩) : CallVC Tryz.prog false 53 [.loc 0 0] ⟨F, WH now R T U M c o2, 53, G⟩ K := by
  have hw : IntKind.i64.wrap (now + 1) = now + 1 := IntWalk.i64_in _ (by omega)
  have hSl := hSp.length_eq
  have e16 : Int.tmod (now + 1) 16 = (now + 1) % 16 := Int.tmod_eq_emod_of_nonneg (by omega)
  have e256 : Int.tmod (now + 1) 256 = (now + 1) % 256 := Int.tmod_eq_emod_of_nonneg (by omega)
  have htm : Int.tmod (now + 1) 16 = 15 := e16.trans hp
  have hb : decide (Int.tmod (now + 1) 256 = 0) = false := decide_eq_false (by rw [e256]; omega)
  refine toIn 4 [] Tryz.func53 rfl (by kernel_rfl) (Nat.le_of_ble_eq_true rfl) (by decide) hG rfl hF ?_
  conv => whnf
  rw [hw]
  refine ⟨by decide, ?_⟩
  conv => whnf
  rw [hb]
  conv => whnf
  refine ⟨by decide, ?_⟩
  conv => whnf
  rw [htm]
  conv => whnf
  refine ⟨by decide, ?_⟩
  conv => whnf
  rw [htm]
  refine ⟨by decide, ?_⟩
  conv => whnf
  refine ⟨by decide, ?_⟩
  conv => whnf
  refine ⟨by decide, ?_⟩
  conv => whnf
  refine ⟨by decide, ?_⟩
  conv => whnf
  refine CallVC.cov (args1 := [.grow 4, .fn 67 [] []]) [(4, 20), (20, 70)] [20] ⟨[(4, .grow 4), (0, .loc 0 0)], WH (now + 1) (upd R 15 []) (R 15) U M c o2, 53, (upto 4 0, 4)⟩ ?_ ?_ (sortA_vc (L := R 15) (S := S) rfl hlen hS hSp ?_)
  · repeat' (first | exact trivial | exact .inl (DLe.refl _) | exact .inl (DLe.nil _ _) | (refine .inr ⟨rfl, _, ?_, rfl⟩; rfl) | exact rfl | exact Nat.zero_le _ | constructor)
    exact ho _ _ _
  · repeat' (first | exact trivial | exact .inl (DLe.refl _) | exact .inl (DLe.nil _ _) | (refine .inr ⟨rfl, _, ?_, rfl⟩; rfl) | exact rfl | exact Nat.zero_le _ | constructor)
  · conv => whnf
    refine ⟨Nat, fun i => ⟨[(64, intD i), (63, intD S.length), (62, .grow 4), (4, .grow 4), (0, .loc 0 0)], WH (now + 1) (upd R 15 []) S U (mdels (S.take i) M) c o2, 53, (upto 4 0, 4)⟩, fun i => i ≤ S.length, fun i => S.length - i, ⟨0, [], [], ?_, Nat.zero_le _⟩, ?_⟩
    · repeat' (first | exact trivial | exact .inl (DLe.refl _) | exact .inl (DLe.nil _ _) | (refine .inr ⟨rfl, _, ?_, rfl⟩; rfl) | exact rfl | exact Nat.zero_le _ | constructor)
      exact ho _ _ _
    · intro i hi
      conv => whnf
      refine Fork.intro (fun h1 => ?_) (fun h1 => ?_)
      · have hlt : (i : Int) < S.length := of_decide_eq_true h1
        conv => whnf
        refine ⟨rfl, ⟨by omega, hlt⟩, ?_⟩
        conv => whnf
        refine ⟨rfl, by show (i : Int).toNat < _; omega, fun a ha => ?_⟩
        have hak : S[i]? = some a := by simpa using ha
        conv => whnf
        refine op_delete rfl imap_ok rfl rfl rfl ?_
        conv => whnf
        rw [wrap_next (show i < S.length by omega) (by omega)]
        refine ⟨i + 1, [], [], ?_, by show i + 1 ≤ _; omega, by show S.length - (i + 1) < S.length - i; omega⟩
        show Cover _ _ _ ⟨_, WH _ _ _ _ (mdels (S.take (i + 1)) M) _ _, _, _⟩
        rw [take_snoc hak, mdels_snoc]
        repeat' (first | exact trivial | exact .inl (DLe.refl _) | exact .inl (DLe.nil _ _) | (refine .inr ⟨rfl, _, ?_, rfl⟩; rfl) | exact rfl | exact Nat.zero_le _ | constructor)
        exact ho _ _ _
      · have hge : ¬ (i : Int) < S.length := of_decide_eq_false h1
        have hil : S.take i = S := List.take_of_length_le (by omega)
        conv => whnf
        rw [hil]
        refine ⟨[], [], .grow 4, WH (now + 1) (upd R 15 []) S U (mdels S M) c o2, 53, ?_, hK⟩
        repeat' (first | exact trivial | exact .inl (DLe.refl _) | exact .inl (DLe.nil _ _) | (refine .inr ⟨rfl, _, ?_, rfl⟩; rfl) | exact rfl | exact Nat.zero_le _ | constructor)
        exact ho _ _ _

theorem tick_0a (F : List (Nat × D)) (now : Int) (R : Nat → List Al) (T U : List Al) (M : List ME) (c : Nat) (o2 : LO) (G : List Nat × Nat) (S : List Al) {K : D → St → Prop} (hF : F.all (fun p => cutOk 6 4 p.2) = true) (hG : Nat.ble G.2 4 = true) (ho : ∀ r z n, LOLe r z n o2 o2) (hn : 0 ≤ now ∧ now ≤ 1099511620000) (R1 Rr : Nat → List Al) (e1 : R1 = pourR (now + 1) (k2 (now + 1)) R) (e2 : Rr = pourR (now + 1) (k1 (now + 1)) R1) (hp : (now + 1) % 256 = 0) (hlen : (Rr 0).length ≤ 1000000) (hat : ∀ k a, a ∈ R k → 0 ≤ a.at_ ∧ a.at_ ≤ 1099511627776) (hl : ∀ j, (R j).length ≤ 100) (hat1 : ∀ k a, a ∈ R1 k → 0 ≤ a.at_ ∧ a.at_ ≤ 1099511627776) (hl1 : ∀ j, (R1 j).length ≤ 100)
    (hS : S.Pairwise fun x y => x.id < y.id) (hSp : S.Perm (Rr 0)) (hK : K (.grow 4) ⟨F, WH (now + 1) (upd Rr 0 []) S U (mdels S M) c o2, 53, G⟩) : CallVC Tryz.prog false 53 [.loc 0 0] ⟨F, WH now R T U M c o2, 53, G⟩ K := by
  have hw : IntKind.i64.wrap (now + 1) = now + 1 := IntWalk.i64_in _ (by omega)
  have hSl := hSp.length_eq
  have e16 : Int.tmod (now + 1) 16 = (now + 1) % 16 := Int.tmod_eq_emod_of_nonneg (by omega)
  have e256 : Int.tmod (now + 1) 256 = (now + 1) % 256 := Int.tmod_eq_emod_of_nonneg (by omega)
  have htm : Int.tmod (now + 1) 16 = 0 := e16.trans (by omega)
  have d16 : IntKind.i64.wrap (Int.tdiv (now + 1) 16) = (now + 1) / 16 := by rw [Int.tdiv_eq_ediv_of_nonneg (by omega)]; exact IntWalk.i64_in _ (by omega)
  have m16 : Int.tmod ((now + 1) / 16) 16 = (now + 1) / 16 % 16 := Int.tmod_eq_emod_of_nonneg (by omega)
  have d256 : IntKind.i64.wrap (Int.tdiv (now + 1) 256) = (now + 1) / 256 := by rw [Int.tdiv_eq_ediv_of_nonneg (by omega)]; exact IntWalk.i64_in _ (by omega)
  have m256 : Int.tmod ((now + 1) / 256) 16 = (now + 1) / 256 % 16 := Int.tmod_eq_emod_of_nonneg (by omega)
  have hb : Int.tmod (now + 1) 256 = 0 := e256.trans hp
  refine toIn 4 [] Tryz.func53 rfl (by kernel_rfl) (Nat.le_of_ble_eq_true rfl) (by decide) hG rfl hF ?_
  conv => whnf
  rw [hw]
  refine ⟨by decide, ?_⟩
  conv => whnf
  rw [hb]
  conv => whnf
  refine ⟨by decide, ?_⟩
  conv => whnf
  refine ⟨by decide, ?_⟩
  conv => whnf
  rw [d256, m256]
  refine CallVC.cov (args1 := [.loc 0 0, intD 2, intD ((now + 1) / 256 % 16)]) [] [] ⟨[(0, .loc 0 0)], WH (now + 1) R T U M c o2, 53, (upto 4 0, 4)⟩ ?_ ?_ (pour_vc _ (now + 1) R T U M c o2 _ 2 ((now + 1) / 256 % 16) (k2 (now + 1)) (by unfold k2; omega) (.inr rfl) ⟨by omega, by omega⟩ rfl rfl ho ⟨by omega, by omega⟩ hat hl ?_)
  · repeat' (first | exact trivial | exact .inl (DLe.refl _) | exact .inl (DLe.nil _ _) | (refine .inr ⟨rfl, _, ?_, rfl⟩; rfl) | exact rfl | exact Nat.zero_le _ | constructor)
    exact ho _ _ _
  · repeat' (first | exact trivial | exact .inl (DLe.refl _) | exact .inl (DLe.nil _ _) | (refine .inr ⟨rfl, _, ?_, rfl⟩; rfl) | exact rfl | exact Nat.zero_le _ | constructor)
  rw [← e1]
  conv => whnf
  refine ⟨by decide, ?_⟩
  conv => whnf
  rw [htm]
  conv => whnf
  refine ⟨by decide, ?_⟩
  conv => whnf
  refine ⟨by decide, ?_⟩
  conv => whnf
  rw [d16, m16]
  refine CallVC.cov (args1 := [.loc 0 0, intD 1, intD ((now + 1) / 16 % 16)]) [] [] ⟨[(0, .loc 0 0)], WH (now + 1) R1 (R (k2 (now + 1))) U M c o2, 53, (upto 4 0, 4)⟩ ?_ ?_ (pour_vc _ (now + 1) R1 _ U M c o2 _ 1 ((now + 1) / 16 % 16) (k1 (now + 1)) (by unfold k1; omega) (.inl rfl) ⟨by omega, by omega⟩ rfl rfl ho ⟨by omega, by omega⟩ hat1 hl1 ?_)
  · repeat' (first | exact trivial | exact .inl (DLe.refl _) | exact .inl (DLe.nil _ _) | (refine .inr ⟨rfl, _, ?_, rfl⟩; rfl) | exact rfl | exact Nat.zero_le _ | constructor)
    exact ho _ _ _
  · repeat' (first | exact trivial | exact .inl (DLe.refl _) | exact .inl (DLe.nil _ _) | (refine .inr ⟨rfl, _, ?_, rfl⟩; rfl) | exact rfl | exact Nat.zero_le _ | constructor)
  rw [← e2]
  clear e2
  conv => whnf
  refine ⟨by decide, ?_⟩
  conv => whnf
  rw [htm]
  refine ⟨by decide, ?_⟩
  conv => whnf
  refine ⟨by decide, ?_⟩
  conv => whnf
  refine ⟨by decide, ?_⟩
  conv => whnf
  refine ⟨by decide, ?_⟩
  conv => whnf
  refine CallVC.cov (args1 := [.grow 4, .fn 67 [] []]) [(4, 5), (5, 70)] [5] ⟨[(4, .grow 4), (0, .loc 0 0)], WH (now + 1) (upd Rr 0 []) (Rr 0) U M c o2, 53, (upto 4 0, 4)⟩ ?_ ?_ (sortA_vc (L := Rr 0) (S := S) rfl hlen hS hSp ?_)
  · repeat' (first | exact trivial | exact .inl (DLe.refl _) | exact .inl (DLe.nil _ _) | (refine .inr ⟨rfl, _, ?_, rfl⟩; rfl) | exact rfl | exact Nat.zero_le _ | constructor)
    exact ho _ _ _
  · repeat' (first | exact trivial | exact .inl (DLe.refl _) | exact .inl (DLe.nil _ _) | (refine .inr ⟨rfl, _, ?_, rfl⟩; rfl) | exact rfl | exact Nat.zero_le _ | constructor)
  · conv => whnf
    refine ⟨Nat, fun i => ⟨[(64, intD i), (63, intD S.length), (62, .grow 4), (4, .grow 4), (0, .loc 0 0)], WH (now + 1) (upd Rr 0 []) S U (mdels (S.take i) M) c o2, 53, (upto 4 0, 4)⟩, fun i => i ≤ S.length, fun i => S.length - i, ⟨0, [], [], ?_, Nat.zero_le _⟩, ?_⟩
    · repeat' (first | exact trivial | exact .inl (DLe.refl _) | exact .inl (DLe.nil _ _) | (refine .inr ⟨rfl, _, ?_, rfl⟩; rfl) | exact rfl | exact Nat.zero_le _ | constructor)
      exact ho _ _ _
    · intro i hi
      conv => whnf
      refine Fork.intro (fun h1 => ?_) (fun h1 => ?_)
      · have hlt : (i : Int) < S.length := of_decide_eq_true h1
        conv => whnf
        refine ⟨rfl, ⟨by omega, hlt⟩, ?_⟩
        conv => whnf
        refine ⟨rfl, by show (i : Int).toNat < _; omega, fun a ha => ?_⟩
        have hak : S[i]? = some a := by simpa using ha
        conv => whnf
        refine op_delete rfl imap_ok rfl rfl rfl ?_
        conv => whnf
        rw [wrap_next (show i < S.length by omega) (by omega)]
        refine ⟨i + 1, [], [], ?_, by show i + 1 ≤ _; omega, by show S.length - (i + 1) < S.length - i; omega⟩
        show Cover _ _ _ ⟨_, WH _ _ _ _ (mdels (S.take (i + 1)) M) _ _, _, _⟩
        rw [take_snoc hak, mdels_snoc]
        repeat' (first | exact trivial | exact .inl (DLe.refl _) | exact .inl (DLe.nil _ _) | (refine .inr ⟨rfl, _, ?_, rfl⟩; rfl) | exact rfl | exact Nat.zero_le _ | constructor)
        exact ho _ _ _
      · have hge : ¬ (i : Int) < S.length := of_decide_eq_false h1
        have hil : S.take i = S := List.take_of_length_le (by omega)
        conv => whnf
        rw [hil]
        refine ⟨[], [], .grow 4, WH (now + 1) (upd Rr 0 []) S U (mdels S M) c o2, 53, ?_, hK⟩
        repeat' (first | exact trivial | exact .inl (DLe.refl _) | exact .inl (DLe.nil _ _) | (refine .inr ⟨rfl, _, ?_, rfl⟩; rfl) | exact rfl | exact Nat.zero_le _ | constructor)
        exact ho _ _ _

theorem tick_0b (F : List (Nat × D)) (now : Int) (R : Nat → List Al) (T U : List Al) (M : List ME) (c : Nat) (o2 : LO) (G : List Nat × Nat) (S : List Al) {K : D → St → Prop} (hF : F.all (fun p => cutOk 6 4 p.2) = true) (hG : Nat.ble G.2 4 = true) (ho : ∀ r z n, LOLe r z n o2 o2) (hn : 0 ≤ now ∧ now ≤ 1099511620000) (Rr : Nat → List Al) (e2 : Rr = pourR (now + 1) (k1 (now + 1)) R) (hp : (now + 1) % 16 = 0) (hp2 : (now + 1) % 256 ≠ 0) (hlen : (Rr 0).length ≤ 1000000) (hat : ∀ k a, a ∈ R k → 0 ≤ a.at_ ∧ a.at_ ≤ 1099511627776) (hl : ∀ j, (R j).length ≤ 100)
    (hS : S.Pairwise fun x y => x.id < y.id) (hSp : S.Perm (Rr 0)) (hK : K (.grow 4) ⟨F, WH (now + 1) (upd Rr 0 []) S U (mdels S M) c o2, 53, G⟩) : CallVC Tryz.prog false 53 [.loc 0 0] ⟨F, WH now R T U M c o2, 53, G⟩ K := by
  have hw : IntKind.i64.wrap (now + 1) = now + 1 := IntWalk.i64_in _ (by omega)
  have hSl := hSp.length_eq
  have e16 : Int.tmod (now + 1) 16 = (now + 1) % 16 := Int.tmod_eq_emod_of_nonneg (by omega)
  have e256 : Int.tmod (now + 1) 256 = (now + 1) % 256 := Int.tmod_eq_emod_of_nonneg (by omega)
  have htm : Int.tmod (now + 1) 16 = 0 := e16.trans (by omega)
  have d16 : IntKind.i64.wrap (Int.tdiv (now + 1) 16) = (now + 1) / 16 := by rw [Int.tdiv_eq_ediv_of_nonneg (by omega)]; exact IntWalk.i64_in _ (by omega)
  have m16 : Int.tmod ((now + 1) / 16) 16 = (now + 1) / 16 % 16 := Int.tmod_eq_emod_of_nonneg (by omega)
  have hb : decide (Int.tmod (now + 1) 256 = 0) = false := decide_eq_false (by rw [e256]; omega)
  refine toIn 4 [] Tryz.func53 rfl (by kernel_rfl) (Nat.le_of_ble_eq_true rfl) (by decide) hG rfl hF ?_
  conv => whnf
  rw [hw]
  refine ⟨by decide, ?_⟩
  conv => whnf
  rw [hb]
  conv => whnf
  refine ⟨by decide, ?_⟩
  conv => whnf
  rw [htm]
  conv => whnf
  refine ⟨by decide, ?_⟩
  conv => whnf
  refine ⟨by decide, ?_⟩
  conv => whnf
  rw [d16, m16]
  refine CallVC.cov (args1 := [.loc 0 0, intD 1, intD ((now + 1) / 16 % 16)]) [] [] ⟨[(0, .loc 0 0)], WH (now + 1) R T U M c o2, 53, (upto 4 0, 4)⟩ ?_ ?_ (pour_vc _ (now + 1) R _ U M c o2 _ 1 ((now + 1) / 16 % 16) (k1 (now + 1)) (by unfold k1; omega) (.inl rfl) ⟨by omega, by omega⟩ rfl rfl ho ⟨by omega, by omega⟩ hat hl ?_)
  · repeat' (first | exact trivial | exact .inl (DLe.refl _) | exact .inl (DLe.nil _ _) | (refine .inr ⟨rfl, _, ?_, rfl⟩; rfl) | exact rfl | exact Nat.zero_le _ | constructor)
    exact ho _ _ _
  · repeat' (first | exact trivial | exact .inl (DLe.refl _) | exact .inl (DLe.nil _ _) | (refine .inr ⟨rfl, _, ?_, rfl⟩; rfl) | exact rfl | exact Nat.zero_le _ | constructor)
  rw [← e2]
  clear e2
  conv => whnf
  refine ⟨by decide, ?_⟩
  conv => whnf
  rw [htm]
  refine ⟨by decide, ?_⟩
  conv => whnf
  refine ⟨by decide, ?_⟩
  conv => whnf
  refine ⟨by decide, ?_⟩
  conv => whnf
  refine ⟨by decide, ?_⟩
  conv => whnf
  refine CallVC.cov (args1 := [.grow 4, .fn 67 [] []]) [(4, 5), (5, 70)] [5] ⟨[(4, .grow 4), (0, .loc 0 0)], WH (now + 1) (upd Rr 0 []) (Rr 0) U M c o2, 53, (upto 4 0, 4)⟩ ?_ ?_ (sortA_vc (L := Rr 0) (S := S) rfl hlen hS hSp ?_)
  · repeat' (first | exact trivial | exact .inl (DLe.refl _) | exact .inl (DLe.nil _ _) | (refine .inr ⟨rfl, _, ?_, rfl⟩; rfl) | exact rfl | exact Nat.zero_le _ | constructor)
    exact ho _ _ _
  · repeat' (first | exact trivial | exact .inl (DLe.refl _) | exact .inl (DLe.nil _ _) | (refine .inr ⟨rfl, _, ?_, rfl⟩; rfl) | exact rfl | exact Nat.zero_le _ | constructor)
  · conv => whnf
    refine ⟨Nat, fun i => ⟨[(64, intD i), (63, intD S.length), (62, .grow 4), (4, .grow 4), (0, .loc 0 0)], WH (now + 1) (upd Rr 0 []) S U (mdels (S.take i) M) c o2, 53, (upto 4 0, 4)⟩, fun i => i ≤ S.length, fun i => S.length - i, ⟨0, [], [], ?_, Nat.zero_le _⟩, ?_⟩
    · repeat' (first | exact trivial | exact .inl (DLe.refl _) | exact .inl (DLe.nil _ _) | (refine .inr ⟨rfl, _, ?_, rfl⟩; rfl) | exact rfl | exact Nat.zero_le _ | constructor)
      exact ho _ _ _
    · intro i hi
      conv => whnf
      refine Fork.intro (fun h1 => ?_) (fun h1 => ?_)
      · have hlt : (i : Int) < S.length := of_decide_eq_true h1
        conv => whnf
        refine ⟨rfl, ⟨by omega, hlt⟩, ?_⟩
        conv => whnf
        refine ⟨rfl, by show (i : Int).toNat < _; omega, fun a ha => ?_⟩
        have hak : S[i]? = some a := by simpa using ha
        conv => whnf
        refine op_delete rfl imap_ok rfl rfl rfl ?_
        conv => whnf
        rw [wrap_next (show i < S.length by omega) (by omega)]
        refine ⟨i + 1, [], [], ?_, by show i + 1 ≤ _; omega, by show S.length - (i + 1) < S.length - i; omega⟩
        show Cover _ _ _ ⟨_, WH _ _ _ _ (mdels (S.take (i + 1)) M) _ _, _, _⟩
        rw [take_snoc hak, mdels_snoc]
        repeat' (first | exact trivial | exact .inl (DLe.refl _) | exact .inl (DLe.nil _ _) | (refine .inr ⟨rfl, _, ?_, rfl⟩; rfl) | exact rfl | exact Nat.zero_le _ | constructor)
        exact ho _ _ _
      · have hge : ¬ (i : Int) < S.length := of_decide_eq_false h1
        have hil : S.take i = S := List.take_of_length_le (by omega)
        conv => whnf
        rw [hil]
        refine ⟨[], [], .grow 4, WH (now + 1) (upd Rr 0 []) S U (mdels S M) c o2, 53, ?_, hK⟩
        repeat' (first | exact trivial | exact .inl (DLe.refl _) | exact .inl (DLe.nil _ _) | (refine .inr ⟨rfl, _, ?_, rfl⟩; rfl) | exact rfl | exact Nat.zero_le _ | constructor)
        exact ho _ _ _
end Go.Proofs.YtcbpdjikdohegaaGreat.V
