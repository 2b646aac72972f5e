/-
  A place of a later row is poured, place by place. Conditions: ticks not too great, rows not too long.
  A place of a later row is poured, place by place. Conditions: ticks not too great, rows not too long.
-/
import Derived.Test.YtcbpdjikdohegaaGreatK5
namespace Go.Proofs.YtcbpdjikdohegaaGreat.V
open Go.RowKit
attribute [local irreducible] Fn FnN OpVC Ob RowFn

theorem pour_32 (F : List (Nat × D)) (now : Int) (R : Nat → List Al) (T U : List Al) (M : List ME) (c : Nat) (o2 : LO) (G : List Nat × Nat) {K : D → St → Prop} (hF : F.all (fun p => cutOk 6 4 p.2) = true) (hG : Nat.ble G.2 4 = true) (ho : ∀ r z n, LOLe r z n o2 o2) (hn : 0 ≤ now ∧ now ≤ 1099511627776) (hat : ∀ a, a ∈ R 32 → 0 ≤ a.at_ ∧ a.at_ ≤ 1099511627776) (hl : ∀ j, (R j).length ≤ 100)
    (hK : K (.tup []) ⟨F, WH now (pourR now 32 R) (R 32) U M c o2, 53, G⟩) : CallVC Tryz.prog false 65 [.loc 0 0, intD 2, intD 0] ⟨F, WH now R T U M c o2, 53, G⟩ K := by
  have hlen := hl 32
  refine toIn 4 [] Tryz.func65 rfl (by kernel_rfl) (Nat.le_of_ble_eq_true rfl) (by decide) hG rfl hF ?_
  conv => whnf
  refine ⟨by decide, ?_⟩
  conv => whnf
  refine ⟨by decide, ?_⟩
  conv => whnf
  refine ⟨by decide, ?_⟩
  conv => whnf
  refine ⟨by decide, ?_⟩
  conv => whnf
  refine ⟨Nat, fun i => ⟨[(26, intD i), (25, intD (R 32).length), (24, .grow 4), (0, .loc 0 0)], WH now (((R 32).take i).foldl (laidR now) (upd R 32 [])) (R 32) U M c o2, 53, (upto 4 0, 4)⟩, fun i => i ≤ (R 32).length, fun i => (R 32).length - i, ⟨0, [(4, 37), (37, 70)], [37], ?_, Nat.zero_le _⟩, ?_⟩
  · repeat' (first | exact trivial | exact .inl (DLe.refl _) | exact .inl (DLe.nil _ _) | (refine .inr ⟨rfl, _, ?_, rfl⟩; rfl) | exact rfl | exact Nat.zero_le _ | constructor)
    exact ho _ _ _
  · intro i hi
    have hb := fold_len now ((R 32).take i) (upd R 32 [])
    have hpos : (R 32)[i]? = none → (R 32).length ≤ i := fun h => List.getElem?_eq_none_iff.1 h
    conv => whnf
    refine Fork.intro (fun h1 => ?_) (fun h1 => ?_)
    · have hlt : (i : Int) < (R 32).length := of_decide_eq_true h1
      conv => whnf
      refine ⟨rfl, ⟨by omega, hlt⟩, ?_⟩
      conv => whnf
      refine ⟨rfl, by show (i : Int).toNat < _; omega, fun a ha => ?_⟩
      have hak : (R 32)[i]? = some a := by simpa using ha
      have hai := hat a (List.mem_of_getElem? hak)
      conv => whnf
      refine CallVC.cov (args1 := [.loc 0 0, .agg (alD a)]) [] [] ⟨[(26, intD i), (25, intD (R 32).length), (24, .grow 4), (0, .loc 0 0)], WH now (((R 32).take i).foldl (laidR now) (upd R 32 [])) (R 32) U M c o2, 53, (upto 4 0, 4)⟩ ?_ ?_ (lay_vc _ now _ _ _ _ _ o2 _ a rfl rfl ho hn hai (fun j => by
        have h2 := hb j
        have h3 : (upd R 32 [] j).length ≤ 100 := upd_nil_len hl j
        rw [List.length_take] at h2
        omega) ?_)
      · repeat' (first | exact trivial | exact .inl (DLe.refl _) | exact .inl (DLe.nil _ _) | (refine .inr ⟨rfl, _, ?_, rfl⟩; rfl) | exact rfl | exact Nat.zero_le _ | constructor)
        exact ho _ _ _
      · repeat' (first | exact trivial | exact .inl (DLe.refl _) | exact .inl (DLe.nil _ _) | (refine .inr ⟨rfl, _, ?_, rfl⟩; rfl) | exact rfl | exact Nat.zero_le _ | constructor)
      · conv => whnf
        rw [wrap_next (show i < (R 32).length by omega) (by omega)]
        refine ⟨i + 1, [], [], ?_, by show i + 1 ≤ _; omega, by show (R 32).length - (i + 1) < (R 32).length - i; omega⟩
        show Cover _ _ _ ⟨_, WH now (((R 32).take (i + 1)).foldl (laidR now) (upd R 32 [])) _ _ _ _ _, _, _⟩
        rw [take_snoc hak, List.foldl_append]
        repeat' (first | exact trivial | exact .inl (DLe.refl _) | exact .inl (DLe.nil _ _) | (refine .inr ⟨rfl, _, ?_, rfl⟩; rfl) | exact rfl | exact Nat.zero_le _ | constructor)
        exact ho _ _ _
    · have hge : ¬ (i : Int) < (R 32).length := of_decide_eq_false h1
      have hil : (R 32).take i = R 32 := List.take_of_length_le (by omega)
      conv => whnf
      rw [hil]
      refine ⟨[], [], .tup [], WH now (pourR now 32 R) (R 32) U M c o2, 53, ?_, hK⟩
      repeat' (first | exact trivial | exact .inl (DLe.refl _) | exact .inl (DLe.nil _ _) | (refine .inr ⟨rfl, _, ?_, rfl⟩; rfl) | exact rfl | exact Nat.zero_le _ | constructor)
      exact ho _ _ _

theorem pour_33 (F : List (Nat × D)) (now : Int) (R : Nat → List Al) (T U : List Al) (M : List ME) (c : Nat) (o2 : LO) (G : List Nat × Nat) {K : D → St → Prop} (hF : F.all (fun p => cutOk 6 4 p.2) = true) (hG : Nat.ble G.2 4 = true) (ho : ∀ r z n, LOLe r z n o2 o2) (hn : 0 ≤ now ∧ now ≤ 1099511627776) (hat : ∀ a, a ∈ R 33 → 0 ≤ a.at_ ∧ a.at_ ≤ 1099511627776) (hl : ∀ j, (R j).length ≤ 100)
    (hK : K (.tup []) ⟨F, WH now (pourR now 33 R) (R 33) U M c o2, 53, G⟩) : CallVC Tryz.prog false 65 [.loc 0 0, intD 2, intD 1] ⟨F, WH now R T U M c o2, 53, G⟩ K := by
  have hlen := hl 33
  refine toIn 4 [] Tryz.func65 rfl (by kernel_rfl) (Nat.le_of_ble_eq_true rfl) (by decide) hG rfl hF ?_
  conv => whnf
  refine ⟨by decide, ?_⟩
  conv => whnf
  refine ⟨by decide, ?_⟩
  conv => whnf
  refine ⟨by decide, ?_⟩
  conv => whnf
  refine ⟨by decide, ?_⟩
  conv => whnf
  refine ⟨Nat, fun i => ⟨[(26, intD i), (25, intD (R 33).length), (24, .grow 4), (0, .loc 0 0)], WH now (((R 33).take i).foldl (laidR now) (upd R 33 [])) (R 33) U M c o2, 53, (upto 4 0, 4)⟩, fun i => i ≤ (R 33).length, fun i => (R 33).length - i, ⟨0, [(4, 38), (38, 70)], [38], ?_, Nat.zero_le _⟩, ?_⟩
  · repeat' (first | exact trivial | exact .inl (DLe.refl _) | exact .inl (DLe.nil _ _) | (refine .inr ⟨rfl, _, ?_, rfl⟩; rfl) | exact rfl | exact Nat.zero_le _ | constructor)
    exact ho _ _ _
  · intro i hi
    have hb := fold_len now ((R 33).take i) (upd R 33 [])
    have hpos : (R 33)[i]? = none → (R 33).length ≤ i := fun h => List.getElem?_eq_none_iff.1 h
    conv => whnf
    refine Fork.intro (fun h1 => ?_) (fun h1 => ?_)
    · have hlt : (i : Int) < (R 33).length := of_decide_eq_true h1
      conv => whnf
      refine ⟨rfl, ⟨by omega, hlt⟩, ?_⟩
      conv => whnf
      refine ⟨rfl, by show (i : Int).toNat < _; omega, fun a ha => ?_⟩
      have hak : (R 33)[i]? = some a := by simpa using ha
      have hai := hat a (List.mem_of_getElem? hak)
      conv => whnf
      refine CallVC.cov (args1 := [.loc 0 0, .agg (alD a)]) [] [] ⟨[(26, intD i), (25, intD (R 33).length), (24, .grow 4), (0, .loc 0 0)], WH now (((R 33).take i).foldl (laidR now) (upd R 33 [])) (R 33) U M c o2, 53, (upto 4 0, 4)⟩ ?_ ?_ (lay_vc _ now _ _ _ _ _ o2 _ a rfl rfl ho hn hai (fun j => by
        have h2 := hb j
        have h3 : (upd R 33 [] j).length ≤ 100 := upd_nil_len hl j
        rw [List.length_take] at h2
        omega) ?_)
      · repeat' (first | exact trivial | exact .inl (DLe.refl _) | exact .inl (DLe.nil _ _) | (refine .inr ⟨rfl, _, ?_, rfl⟩; rfl) | exact rfl | exact Nat.zero_le _ | constructor)
        exact ho _ _ _
      · repeat' (first | exact trivial | exact .inl (DLe.refl _) | exact .inl (DLe.nil _ _) | (refine .inr ⟨rfl, _, ?_, rfl⟩; rfl) | exact rfl | exact Nat.zero_le _ | constructor)
      · conv => whnf
        rw [wrap_next (show i < (R 33).length by omega) (by omega)]
        refine ⟨i + 1, [], [], ?_, by show i + 1 ≤ _; omega, by show (R 33).length - (i + 1) < (R 33).length - i; omega⟩
        show Cover _ _ _ ⟨_, WH now (((R 33).take (i + 1)).foldl (laidR now) (upd R 33 [])) _ _ _ _ _, _, _⟩
        rw [take_snoc hak, List.foldl_append]
        repeat' (first | exact trivial | exact .inl (DLe.refl _) | exact .inl (DLe.nil _ _) | (refine .inr ⟨rfl, _, ?_, rfl⟩; rfl) | exact rfl | exact Nat.zero_le _ | constructor)
        exact ho _ _ _
    · have hge : ¬ (i : Int) < (R 33).length := of_decide_eq_false h1
      have hil : (R 33).take i = R 33 := List.take_of_length_le (by omega)
      conv => whnf
      rw [hil]
      refine ⟨[], [], .tup [], WH now (pourR now 33 R) (R 33) U M c o2, 53, ?_, hK⟩
      repeat' (first | exact trivial | exact .inl (DLe.refl _) | exact .inl (DLe.nil _ _) | (refine .inr ⟨rfl, _, ?_, rfl⟩; rfl) | exact rfl | exact Nat.zero_le _ | constructor)
      exact ho _ _ _

theorem pour_34 (F : List (Nat × D)) (now : Int) (R : Nat → List Al) (T U : List Al) (M : List ME) (c : Nat) (o2 : LO) (G : List Nat × Nat) {K : D → St → Prop} (hF : F.all (fun p => cutOk 6 4 p.2) = true) (hG : Nat.ble G.2 4 = true) (ho : ∀ r z n, LOLe r z n o2 o2) (hn : 0 ≤ now ∧ now ≤ 1099511627776) (hat : ∀ a, a ∈ R 34 → 0 ≤ a.at_ ∧ a.at_ ≤ 1099511627776) (hl : ∀ j, (R j).length ≤ 100)
    (hK : K (.tup []) ⟨F, WH now (pourR now 34 R) (R 34) U M c o2, 53, G⟩) : CallVC Tryz.prog false 65 [.loc 0 0, intD 2, intD 2] ⟨F, WH now R T U M c o2, 53, G⟩ K := by
  have hlen := hl 34
  refine toIn 4 [] Tryz.func65 rfl (by kernel_rfl) (Nat.le_of_ble_eq_true rfl) (by decide) hG rfl hF ?_
  conv => whnf
  refine ⟨by decide, ?_⟩
  conv => whnf
  refine ⟨by decide, ?_⟩
  conv => whnf
  refine ⟨by decide, ?_⟩
  conv => whnf
  refine ⟨by decide, ?_⟩
  conv => whnf
  refine ⟨Nat, fun i => ⟨[(26, intD i), (25, intD (R 34).length), (24, .grow 4), (0, .loc 0 0)], WH now (((R 34).take i).foldl (laidR now) (upd R 34 [])) (R 34) U M c o2, 53, (upto 4 0, 4)⟩, fun i => i ≤ (R 34).length, fun i => (R 34).length - i, ⟨0, [(4, 39), (39, 70)], [39], ?_, Nat.zero_le _⟩, ?_⟩
  · repeat' (first | exact trivial | exact .inl (DLe.refl _) | exact .inl (DLe.nil _ _) | (refine .inr ⟨rfl, _, ?_, rfl⟩; rfl) | exact rfl | exact Nat.zero_le _ | constructor)
    exact ho _ _ _
  · intro i hi
    have hb := fold_len now ((R 34).take i) (upd R 34 [])
    have hpos : (R 34)[i]? = none → (R 34).length ≤ i := fun h => List.getElem?_eq_none_iff.1 h
    conv => whnf
    refine Fork.intro (fun h1 => ?_) (fun h1 => ?_)
    · have hlt : (i : Int) < (R 34).length := of_decide_eq_true h1
      conv => whnf
      refine ⟨rfl, ⟨by omega, hlt⟩, ?_⟩
      conv => whnf
      refine ⟨rfl, by show (i : Int).toNat < _; omega, fun a ha => ?_⟩
      have hak : (R 34)[i]? = some a := by simpa using ha
      have hai := hat a (List.mem_of_getElem? hak)
      conv => whnf
      refine CallVC.cov (args1 := [.loc 0 0, .agg (alD a)]) [] [] ⟨[(26, intD i), (25, intD (R 34).length), (24, .grow 4), (0, .loc 0 0)], WH now (((R 34).take i).foldl (laidR now) (upd R 34 [])) (R 34) U M c o2, 53, (upto 4 0, 4)⟩ ?_ ?_ (lay_vc _ now _ _ _ _ _ o2 _ a rfl rfl ho hn hai (fun j => by
        have h2 := hb j
        have h3 : (upd R 34 [] j).length ≤ 100 := upd_nil_len hl j
        rw [List.length_take] at h2
        omega) ?_)
      · repeat' (first | exact trivial | exact .inl (DLe.refl _) | exact .inl (DLe.nil _ _) | (refine .inr ⟨rfl, _, ?_, rfl⟩; rfl) | exact rfl | exact Nat.zero_le _ | constructor)
        exact ho _ _ _
      · repeat' (first | exact trivial | exact .inl (DLe.refl _) | exact .inl (DLe.nil _ _) | (refine .inr ⟨rfl, _, ?_, rfl⟩; rfl) | exact rfl | exact Nat.zero_le _ | constructor)
      · conv => whnf
        rw [wrap_next (show i < (R 34).length by omega) (by omega)]
        refine ⟨i + 1, [], [], ?_, by show i + 1 ≤ _; omega, by show (R 34).length - (i + 1) < (R 34).length - i; omega⟩
        show Cover _ _ _ ⟨_, WH now (((R 34).take (i + 1)).foldl (laidR now) (upd R 34 [])) _ _ _ _ _, _, _⟩
        rw [take_snoc hak, List.foldl_append]
        repeat' (first | exact trivial | exact .inl (DLe.refl _) | exact .inl (DLe.nil _ _) | (refine .inr ⟨rfl, _, ?_, rfl⟩; rfl) | exact rfl | exact Nat.zero_le _ | constructor)
        exact ho _ _ _
    · have hge : ¬ (i : Int) < (R 34).length := of_decide_eq_false h1
      have hil : (R 34).take i = R 34 := List.take_of_length_le (by omega)
      conv => whnf
      rw [hil]
      refine ⟨[], [], .tup [], WH now (pourR now 34 R) (R 34) U M c o2, 53, ?_, hK⟩
      repeat' (first | exact trivial | exact .inl (DLe.refl _) | exact .inl (DLe.nil _ _) | (refine .inr ⟨rfl, _, ?_, rfl⟩; rfl) | exact rfl | exact Nat.zero_le _ | constructor)
      exact ho _ _ _

theorem pour_35 (F : List (Nat × D)) (now : Int) (R : Nat → List Al) (T U : List Al) (M : List ME) (c : Nat) (o2 : LO) (G : List Nat × Nat) {K : D → St → Prop} (hF : F.all (fun p => cutOk 6 4 p.2) = true) (hG : Nat.ble G.2 4 = true) (ho : ∀ r z n, LOLe r z n o2 o2) (hn : 0 ≤ now ∧ now ≤ 1099511627776) (hat : ∀ a, a ∈ R 35 → 0 ≤ a.at_ ∧ a.at_ ≤ 1099511627776) (hl : ∀ j, (R j).length ≤ 100)
    (hK : K (.tup []) ⟨F, WH now (pourR now 35 R) (R 35) U M c o2, 53, G⟩) : CallVC Tryz.prog false 65 [.loc 0 0, intD 2, intD 3] ⟨F, WH now R T U M c o2, 53, G⟩ K := by
  have hlen := hl 35
  refine toIn 4 [] Tryz.func65 rfl (by kernel_rfl) (Nat.le_of_ble_eq_true rfl) (by decide) hG rfl hF ?_
  conv => whnf
  refine ⟨by decide, ?_⟩
  conv => whnf
  refine ⟨by decide, ?_⟩
  conv => whnf
  refine ⟨by decide, ?_⟩
  conv => whnf
  refine ⟨by decide, ?_⟩
  conv => whnf
  refine ⟨Nat, fun i => ⟨[(26, intD i), (25, intD (R 35).length), (24, .grow 4), (0, .loc 0 0)], WH now (((R 35).take i).foldl (laidR now) (upd R 35 [])) (R 35) U M c o2, 53, (upto 4 0, 4)⟩, fun i => i ≤ (R 35).length, fun i => (R 35).length - i, ⟨0, [(4, 40), (40, 70)], [40], ?_, Nat.zero_le _⟩, ?_⟩
  · repeat' (first | exact trivial | exact .inl (DLe.refl _) | exact .inl (DLe.nil _ _) | (refine .inr ⟨rfl, _, ?_, rfl⟩; rfl) | exact rfl | exact Nat.zero_le _ | constructor)
    exact ho _ _ _
  · intro i hi
    have hb := fold_len now ((R 35).take i) (upd R 35 [])
    have hpos : (R 35)[i]? = none → (R 35).length ≤ i := fun h => List.getElem?_eq_none_iff.1 h
    conv => whnf
    refine Fork.intro (fun h1 => ?_) (fun h1 => ?_)
    · have hlt : (i : Int) < (R 35).length := of_decide_eq_true h1
      conv => whnf
      refine ⟨rfl, ⟨by omega, hlt⟩, ?_⟩
      conv => whnf
      refine ⟨rfl, by show (i : Int).toNat < _; omega, fun a ha => ?_⟩
      have hak : (R 35)[i]? = some a := by simpa using ha
      have hai := hat a (List.mem_of_getElem? hak)
      conv => whnf
      refine CallVC.cov (args1 := [.loc 0 0, .agg (alD a)]) [] [] ⟨[(26, intD i), (25, intD (R 35).length), (24, .grow 4), (0, .loc 0 0)], WH now (((R 35).take i).foldl (laidR now) (upd R 35 [])) (R 35) U M c o2, 53, (upto 4 0, 4)⟩ ?_ ?_ (lay_vc _ now _ _ _ _ _ o2 _ a rfl rfl ho hn hai (fun j => by
        have h2 := hb j
        have h3 : (upd R 35 [] j).length ≤ 100 := upd_nil_len hl j
        rw [List.length_take] at h2
        omega) ?_)
      · repeat' (first | exact trivial | exact .inl (DLe.refl _) | exact .inl (DLe.nil _ _) | (refine .inr ⟨rfl, _, ?_, rfl⟩; rfl) | exact rfl | exact Nat.zero_le _ | constructor)
        exact ho _ _ _
      · repeat' (first | exact trivial | exact .inl (DLe.refl _) | exact .inl (DLe.nil _ _) | (refine .inr ⟨rfl, _, ?_, rfl⟩; rfl) | exact rfl | exact Nat.zero_le _ | constructor)
      · conv => whnf
        rw [wrap_next (show i < (R 35).length by omega) (by omega)]
        refine ⟨i + 1, [], [], ?_, by show i + 1 ≤ _; omega, by show (R 35).length - (i + 1) < (R 35).length - i; omega⟩
        show Cover _ _ _ ⟨_, WH now (((R 35).take (i + 1)).foldl (laidR now) (upd R 35 [])) _ _ _ _ _, _, _⟩
        rw [take_snoc hak, List.foldl_append]
        repeat' (first | exact trivial | exact .inl (DLe.refl _) | exact .inl (DLe.nil _ _) | (refine .inr ⟨rfl, _, ?_, rfl⟩; rfl) | exact rfl | exact Nat.zero_le _ | constructor)
        exact ho _ _ _
    · have hge : ¬ (i : Int) < (R 35).length := of_decide_eq_false h1
      have hil : (R 35).take i = R 35 := List.take_of_length_le (by omega)
      conv => whnf
      rw [hil]
      refine ⟨[], [], .tup [], WH now (pourR now 35 R) (R 35) U M c o2, 53, ?_, hK⟩
      repeat' (first | exact trivial | exact .inl (DLe.refl _) | exact .inl (DLe.nil _ _) | (refine .inr ⟨rfl, _, ?_, rfl⟩; rfl) | exact rfl | exact Nat.zero_le _ | constructor)
      exact ho _ _ _

theorem pour_36 (F : List (Nat × D)) (now : Int) (R : Nat → List Al) (T U : List Al) (M : List ME) (c : Nat) (o2 : LO) (G : List Nat × Nat) {K : D → St → Prop} (hF : F.all (fun p => cutOk 6 4 p.2) = true) (hG : Nat.ble G.2 4 = true) (ho : ∀ r z n, LOLe r z n o2 o2) (hn : 0 ≤ now ∧ now ≤ 1099511627776) (hat : ∀ a, a ∈ R 36 → 0 ≤ a.at_ ∧ a.at_ ≤ 1099511627776) (hl : ∀ j, (R j).length ≤ 100)
    (hK : K (.tup []) ⟨F, WH now (pourR now 36 R) (R 36) U M c o2, 53, G⟩) : CallVC Tryz.prog false 65 [.loc 0 0, intD 2, intD 4] ⟨F, WH now R T U M c o2, 53, G⟩ K := by
  have hlen := hl 36
  refine toIn 4 [] Tryz.func65 rfl (by kernel_rfl) (Nat.le_of_ble_eq_true rfl) (by decide) hG rfl hF ?_
  conv => whnf
  refine ⟨by decide, ?_⟩
  conv => whnf
  refine ⟨by decide, ?_⟩
  conv => whnf
  refine ⟨by decide, ?_⟩
  conv => whnf
  refine ⟨by decide, ?_⟩
  conv => whnf
  refine ⟨Nat, fun i => ⟨[(26, intD i), (25, intD (R 36).length), (24, .grow 4), (0, .loc 0 0)], WH now (((R 36).take i).foldl (laidR now) (upd R 36 [])) (R 36) U M c o2, 53, (upto 4 0, 4)⟩, fun i => i ≤ (R 36).length, fun i => (R 36).length - i, ⟨0, [(4, 41), (41, 70)], [41], ?_, Nat.zero_le _⟩, ?_⟩
  · repeat' (first | exact trivial | exact .inl (DLe.refl _) | exact .inl (DLe.nil _ _) | (refine .inr ⟨rfl, _, ?_, rfl⟩; rfl) | exact rfl | exact Nat.zero_le _ | constructor)
    exact ho _ _ _
  · intro i hi
    have hb := fold_len now ((R 36).take i) (upd R 36 [])
    have hpos : (R 36)[i]? = none → (R 36).length ≤ i := fun h => List.getElem?_eq_none_iff.1 h
    conv => whnf
    refine Fork.intro (fun h1 => ?_) (fun h1 => ?_)
    · have hlt : (i : Int) < (R 36).length := of_decide_eq_true h1
      conv => whnf
      refine ⟨rfl, ⟨by omega, hlt⟩, ?_⟩
      conv => whnf
      refine ⟨rfl, by show (i : Int).toNat < _; omega, fun a ha => ?_⟩
      have hak : (R 36)[i]? = some a := by simpa using ha
      have hai := hat a (List.mem_of_getElem? hak)
      conv => whnf
      refine CallVC.cov (args1 := [.loc 0 0, .agg (alD a)]) [] [] ⟨[(26, intD i), (25, intD (R 36).length), (24, .grow 4), (0, .loc 0 0)], WH now (((R 36).take i).foldl (laidR now) (upd R 36 [])) (R 36) U M c o2, 53, (upto 4 0, 4)⟩ ?_ ?_ (lay_vc _ now _ _ _ _ _ o2 _ a rfl rfl ho hn hai (fun j => by
        have h2 := hb j
        have h3 : (upd R 36 [] j).length ≤ 100 := upd_nil_len hl j
        rw [List.length_take] at h2
        omega) ?_)
      · repeat' (first | exact trivial | exact .inl (DLe.refl _) | exact .inl (DLe.nil _ _) | (refine .inr ⟨rfl, _, ?_, rfl⟩; rfl) | exact rfl | exact Nat.zero_le _ | constructor)
        exact ho _ _ _
      · repeat' (first | exact trivial | exact .inl (DLe.refl _) | exact .inl (DLe.nil _ _) | (refine .inr ⟨rfl, _, ?_, rfl⟩; rfl) | exact rfl | exact Nat.zero_le _ | constructor)
      · conv => whnf
        rw [wrap_next (show i < (R 36).length by omega) (by omega)]
        refine ⟨i + 1, [], [], ?_, by show i + 1 ≤ _; omega, by show (R 36).length - (i + 1) < (R 36).length - i; omega⟩
        show Cover _ _ _ ⟨_, WH now (((R 36).take (i + 1)).foldl (laidR now) (upd R 36 [])) _ _ _ _ _, _, _⟩
        rw [take_snoc hak, List.foldl_append]
        repeat' (first | exact trivial | exact .inl (DLe.refl _) | exact .inl (DLe.nil _ _) | (refine .inr ⟨rfl, _, ?_, rfl⟩; rfl) | exact rfl | exact Nat.zero_le _ | constructor)
        exact ho _ _ _
    · have hge : ¬ (i : Int) < (R 36).length := of_decide_eq_false h1
      have hil : (R 36).take i = R 36 := List.take_of_length_le (by omega)
      conv => whnf
      rw [hil]
      refine ⟨[], [], .tup [], WH now (pourR now 36 R) (R 36) U M c o2, 53, ?_, hK⟩
      repeat' (first | exact trivial | exact .inl (DLe.refl _) | exact .inl (DLe.nil _ _) | (refine .inr ⟨rfl, _, ?_, rfl⟩; rfl) | exact rfl | exact Nat.zero_le _ | constructor)
      exact ho _ _ _

theorem pour_37 (F : List (Nat × D)) (now : Int) (R : Nat → List Al) (T U : List Al) (M : List ME) (c : Nat) (o2 : LO) (G : List Nat × Nat) {K : D → St → Prop} (hF : F.all (fun p => cutOk 6 4 p.2) = true) (hG : Nat.ble G.2 4 = true) (ho : ∀ r z n, LOLe r z n o2 o2) (hn : 0 ≤ now ∧ now ≤ 1099511627776) (hat : ∀ a, a ∈ R 37 → 0 ≤ a.at_ ∧ a.at_ ≤ 1099511627776) (hl : ∀ j, (R j).length ≤ 100)
    (hK : K (.tup []) ⟨F, WH now (pourR now 37 R) (R 37) U M c o2, 53, G⟩) : CallVC Tryz.prog false 65 [.loc 0 0, intD 2, intD 5] ⟨F, WH now R T U M c o2, 53, G⟩ K := by
  have hlen := hl 37
  refine toIn 4 [] Tryz.func65 rfl (by kernel_rfl) (Nat.le_of_ble_eq_true rfl) (by decide) hG rfl hF ?_
  conv => whnf
  refine ⟨by decide, ?_⟩
  conv => whnf
  refine ⟨by decide, ?_⟩
  conv => whnf
  refine ⟨by decide, ?_⟩
  conv => whnf
  refine ⟨by decide, ?_⟩
  conv => whnf
  refine ⟨Nat, fun i => ⟨[(26, intD i), (25, intD (R 37).length), (24, .grow 4), (0, .loc 0 0)], WH now (((R 37).take i).foldl (laidR now) (upd R 37 [])) (R 37) U M c o2, 53, (upto 4 0, 4)⟩, fun i => i ≤ (R 37).length, fun i => (R 37).length - i, ⟨0, [(4, 42), (42, 70)], [42], ?_, Nat.zero_le _⟩, ?_⟩
  · repeat' (first | exact trivial | exact .inl (DLe.refl _) | exact .inl (DLe.nil _ _) | (refine .inr ⟨rfl, _, ?_, rfl⟩; rfl) | exact rfl | exact Nat.zero_le _ | constructor)
    exact ho _ _ _
  · intro i hi
    have hb := fold_len now ((R 37).take i) (upd R 37 [])
    have hpos : (R 37)[i]? = none → (R 37).length ≤ i := fun h => List.getElem?_eq_none_iff.1 h
    conv => whnf
    refine Fork.intro (fun h1 => ?_) (fun h1 => ?_)
    · have hlt : (i : Int) < (R 37).length := of_decide_eq_true h1
      conv => whnf
      refine ⟨rfl, ⟨by omega, hlt⟩, ?_⟩
      conv => whnf
      refine ⟨rfl, by show (i : Int).toNat < _; omega, fun a ha => ?_⟩
      have hak : (R 37)[i]? = some a := by simpa using ha
      have hai := hat a (List.mem_of_getElem? hak)
      conv => whnf
      refine CallVC.cov (args1 := [.loc 0 0, .agg (alD a)]) [] [] ⟨[(26, intD i), (25, intD (R 37).length), (24, .grow 4), (0, .loc 0 0)], WH now (((R 37).take i).foldl (laidR now) (upd R 37 [])) (R 37) U M c o2, 53, (upto 4 0, 4)⟩ ?_ ?_ (lay_vc _ now _ _ _ _ _ o2 _ a rfl rfl ho hn hai (fun j => by
        have h2 := hb j
        have h3 : (upd R 37 [] j).length ≤ 100 := upd_nil_len hl j
        rw [List.length_take] at h2
        omega) ?_)
      · repeat' (first | exact trivial | exact .inl (DLe.refl _) | exact .inl (DLe.nil _ _) | (refine .inr ⟨rfl, _, ?_, rfl⟩; rfl) | exact rfl | exact Nat.zero_le _ | constructor)
        exact ho _ _ _
      · repeat' (first | exact trivial | exact .inl (DLe.refl _) | exact .inl (DLe.nil _ _) | (refine .inr ⟨rfl, _, ?_, rfl⟩; rfl) | exact rfl | exact Nat.zero_le _ | constructor)
      · conv => whnf
        rw [wrap_next (show i < (R 37).length by omega) (by omega)]
        refine ⟨i + 1, [], [], ?_, by show i + 1 ≤ _; omega, by show (R 37).length - (i + 1) < (R 37).length - i; omega⟩
        show Cover _ _ _ ⟨_, WH now (((R 37).take (i + 1)).foldl (laidR now) (upd R 37 [])) _ _ _ _ _, _, _⟩
        rw [take_snoc hak, List.foldl_append]
        repeat' (first | exact trivial | exact .inl (DLe.refl _) | exact .inl (DLe.nil _ _) | (refine .inr ⟨rfl, _, ?_, rfl⟩; rfl) | exact rfl | exact Nat.zero_le _ | constructor)
        exact ho _ _ _
    · have hge : ¬ (i : Int) < (R 37).length := of_decide_eq_false h1
      have hil : (R 37).take i = R 37 := List.take_of_length_le (by omega)
      conv => whnf
      rw [hil]
      refine ⟨[], [], .tup [], WH now (pourR now 37 R) (R 37) U M c o2, 53, ?_, hK⟩
      repeat' (first | exact trivial | exact .inl (DLe.refl _) | exact .inl (DLe.nil _ _) | (refine .inr ⟨rfl, _, ?_, rfl⟩; rfl) | exact rfl | exact Nat.zero_le _ | constructor)
      exact ho _ _ _

theorem pour_38 (F : List (Nat × D)) (now : Int) (R : Nat → List Al) (T U : List Al) (M : List ME) (c : Nat) (o2 : LO) (G : List Nat × Nat) {K : D → St → Prop} (hF : F.all (fun p => cutOk 6 4 p.2) = true) (hG : Nat.ble G.2 4 = true) (ho : ∀ r z n, LOLe r z n o2 o2) (hn : 0 ≤ now ∧ now ≤ 1099511627776) (hat : ∀ a, a ∈ R 38 → 0 ≤ a.at_ ∧ a.at_ ≤ 1099511627776) (hl : ∀ j, (R j).length ≤ 100)
    (hK : K (.tup []) ⟨F, WH now (pourR now 38 R) (R 38) U M c o2, 53, G⟩) : CallVC Tryz.prog false 65 [.loc 0 0, intD 2, intD 6] ⟨F, WH now R T U M c o2, 53, G⟩ K := by
  have hlen := hl 38
  refine toIn 4 [] Tryz.func65 rfl (by kernel_rfl) (Nat.le_of_ble_eq_true rfl) (by decide) hG rfl hF ?_
  conv => whnf
  refine ⟨by decide, ?_⟩
  conv => whnf
  refine ⟨by decide, ?_⟩
  conv => whnf
  refine ⟨by decide, ?_⟩
  conv => whnf
  refine ⟨by decide, ?_⟩
  conv => whnf
  refine ⟨Nat, fun i => ⟨[(26, intD i), (25, intD (R 38).length), (24, .grow 4), (0, .loc 0 0)], WH now (((R 38).take i).foldl (laidR now) (upd R 38 [])) (R 38) U M c o2, 53, (upto 4 0, 4)⟩, fun i => i ≤ (R 38).length, fun i => (R 38).length - i, ⟨0, [(4, 43), (43, 70)], [43], ?_, Nat.zero_le _⟩, ?_⟩
  · repeat' (first | exact trivial | exact .inl (DLe.refl _) | exact .inl (DLe.nil _ _) | (refine .inr ⟨rfl, _, ?_, rfl⟩; rfl) | exact rfl | exact Nat.zero_le _ | constructor)
    exact ho _ _ _
  · intro i hi
    have hb := fold_len now ((R 38).take i) (upd R 38 [])
    have hpos : (R 38)[i]? = none → (R 38).length ≤ i := fun h => List.getElem?_eq_none_iff.1 h
    conv => whnf
    refine Fork.intro (fun h1 => ?_) (fun h1 => ?_)
    · have hlt : (i : Int) < (R 38).length := of_decide_eq_true h1
      conv => whnf
      refine ⟨rfl, ⟨by omega, hlt⟩, ?_⟩
      conv => whnf
      refine ⟨rfl, by show (i : Int).toNat < _; omega, fun a ha => ?_⟩
      have hak : (R 38)[i]? = some a := by simpa using ha
      have hai := hat a (List.mem_of_getElem? hak)
      conv => whnf
      refine CallVC.cov (args1 := [.loc 0 0, .agg (alD a)]) [] [] ⟨[(26, intD i), (25, intD (R 38).length), (24, .grow 4), (0, .loc 0 0)], WH now (((R 38).take i).foldl (laidR now) (upd R 38 [])) (R 38) U M c o2, 53, (upto 4 0, 4)⟩ ?_ ?_ (lay_vc _ now _ _ _ _ _ o2 _ a rfl rfl ho hn hai (fun j => by
        have h2 := hb j
        have h3 : (upd R 38 [] j).length ≤ 100 := upd_nil_len hl j
        rw [List.length_take] at h2
        omega) ?_)
      · repeat' (first | exact trivial | exact .inl (DLe.refl _) | exact .inl (DLe.nil _ _) | (refine .inr ⟨rfl, _, ?_, rfl⟩; rfl) | exact rfl | exact Nat.zero_le _ | constructor)
        exact ho _ _ _
      · repeat' (first | exact trivial | exact .inl (DLe.refl _) | exact .inl (DLe.nil _ _) | (refine .inr ⟨rfl, _, ?_, rfl⟩; rfl) | exact rfl | exact Nat.zero_le _ | constructor)
      · conv => whnf
        rw [wrap_next (show i < (R 38).length by omega) (by omega)]
        refine ⟨i + 1, [], [], ?_, by show i + 1 ≤ _; omega, by show (R 38).length - (i + 1) < (R 38).length - i; omega⟩
        show Cover _ _ _ ⟨_, WH now (((R 38).take (i + 1)).foldl (laidR now) (upd R 38 [])) _ _ _ _ _, _, _⟩
        rw [take_snoc hak, List.foldl_append]
        repeat' (first | exact trivial | exact .inl (DLe.refl _) | exact .inl (DLe.nil _ _) | (refine .inr ⟨rfl, _, ?_, rfl⟩; rfl) | exact rfl | exact Nat.zero_le _ | constructor)
        exact ho _ _ _
    · have hge : ¬ (i : Int) < (R 38).length := of_decide_eq_false h1
      have hil : (R 38).take i = R 38 := List.take_of_length_le (by omega)
      conv => whnf
      rw [hil]
      refine ⟨[], [], .tup [], WH now (pourR now 38 R) (R 38) U M c o2, 53, ?_, hK⟩
      repeat' (first | exact trivial | exact .inl (DLe.refl _) | exact .inl (DLe.nil _ _) | (refine .inr ⟨rfl, _, ?_, rfl⟩; rfl) | exact rfl | exact Nat.zero_le _ | constructor)
      exact ho _ _ _

theorem pour_39 (F : List (Nat × D)) (now : Int) (R : Nat → List Al) (T U : List Al) (M : List ME) (c : Nat) (o2 : LO) (G : List Nat × Nat) {K : D → St → Prop} (hF : F.all (fun p => cutOk 6 4 p.2) = true) (hG : Nat.ble G.2 4 = true) (ho : ∀ r z n, LOLe r z n o2 o2) (hn : 0 ≤ now ∧ now ≤ 1099511627776) (hat : ∀ a, a ∈ R 39 → 0 ≤ a.at_ ∧ a.at_ ≤ 1099511627776) (hl : ∀ j, (R j).length ≤ 100)
    (hK : K (.tup []) ⟨F, WH now (pourR now 39 R) (R 39) U M c o2, 53, G⟩) : CallVC Tryz.prog false 65 [.loc 0 0, intD 2, intD 7] ⟨F, WH now R T U M c o2, 53, G⟩ K := by
  have hlen := hl 39
  refine toIn 4 [] Tryz.func65 rfl (by kernel_rfl) (Nat.le_of_ble_eq_true rfl) (by decide) hG rfl hF ?_
  conv => whnf
  refine ⟨by decide, ?_⟩
  conv => whnf
  refine ⟨by decide, ?_⟩
  conv => whnf
  refine ⟨by decide, ?_⟩
  conv => whnf
  refine ⟨by decide, ?_⟩
  conv => whnf
  refine ⟨Nat, fun i => ⟨[(26, intD i), (25, intD (R 39).length), (24, .grow 4), (0, .loc 0 0)], WH now (((R 39).take i).foldl (laidR now) (upd R 39 [])) (R 39) U M c o2, 53, (upto 4 0, 4)⟩, fun i => i ≤ (R 39).length, fun i => (R 39).length - i, ⟨0, [(4, 44), (44, 70)], [44], ?_, Nat.zero_le _⟩, ?_⟩
  · repeat' (first | exact trivial | exact .inl (DLe.refl _) | exact .inl (DLe.nil _ _) | (refine .inr ⟨rfl, _, ?_, rfl⟩; rfl) | exact rfl | exact Nat.zero_le _ | constructor)
    exact ho _ _ _
  · intro i hi
    have hb := fold_len now ((R 39).take i) (upd R 39 [])
    have hpos : (R 39)[i]? = none → (R 39).length ≤ i := fun h => List.getElem?_eq_none_iff.1 h
    conv => whnf
    refine Fork.intro (fun h1 => ?_) (fun h1 => ?_)
    · have hlt : (i : Int) < (R 39).length := of_decide_eq_true h1
      conv => whnf
      refine ⟨rfl, ⟨by omega, hlt⟩, ?_⟩
      conv => whnf
      refine ⟨rfl, by show (i : Int).toNat < _; omega, fun a ha => ?_⟩
      have hak : (R 39)[i]? = some a := by simpa using ha
      have hai := hat a (List.mem_of_getElem? hak)
      conv => whnf
      refine CallVC.cov (args1 := [.loc 0 0, .agg (alD a)]) [] [] ⟨[(26, intD i), (25, intD (R 39).length), (24, .grow 4), (0, .loc 0 0)], WH now (((R 39).take i).foldl (laidR now) (upd R 39 [])) (R 39) U M c o2, 53, (upto 4 0, 4)⟩ ?_ ?_ (lay_vc _ now _ _ _ _ _ o2 _ a rfl rfl ho hn hai (fun j => by
        have h2 := hb j
        have h3 : (upd R 39 [] j).length ≤ 100 := upd_nil_len hl j
        rw [List.length_take] at h2
        omega) ?_)
      · repeat' (first | exact trivial | exact .inl (DLe.refl _) | exact .inl (DLe.nil _ _) | (refine .inr ⟨rfl, _, ?_, rfl⟩; rfl) | exact rfl | exact Nat.zero_le _ | constructor)
        exact ho _ _ _
      · repeat' (first | exact trivial | exact .inl (DLe.refl _) | exact .inl (DLe.nil _ _) | (refine .inr ⟨rfl, _, ?_, rfl⟩; rfl) | exact rfl | exact Nat.zero_le _ | constructor)
      · conv => whnf
        rw [wrap_next (show i < (R 39).length by omega) (by omega)]
        refine ⟨i + 1, [], [], ?_, by show i + 1 ≤ _; omega, by show (R 39).length - (i + 1) < (R 39).length - i; omega⟩
        show Cover _ _ _ ⟨_, WH now (((R 39).take (i + 1)).foldl (laidR now) (upd R 39 [])) _ _ _ _ _, _, _⟩
        rw [take_snoc hak, List.foldl_append]
        repeat' (first | exact trivial | exact .inl (DLe.refl _) | exact .inl (DLe.nil _ _) | (refine .inr ⟨rfl, _, ?_, rfl⟩; rfl) | exact rfl | exact Nat.zero_le _ | constructor)
        exact ho _ _ _
    · have hge : ¬ (i : Int) < (R 39).length := of_decide_eq_false h1
      have hil : (R 39).take i = R 39 := List.take_of_length_le (by omega)
      conv => whnf
      rw [hil]
      refine ⟨[], [], .tup [], WH now (pourR now 39 R) (R 39) U M c o2, 53, ?_, hK⟩
      repeat' (first | exact trivial | exact .inl (DLe.refl _) | exact .inl (DLe.nil _ _) | (refine .inr ⟨rfl, _, ?_, rfl⟩; rfl) | exact rfl | exact Nat.zero_le _ | constructor)
      exact ho _ _ _
end Go.Proofs.YtcbpdjikdohegaaGreat.V
namespace Go.Proofs.YtcbpdjikdohegaaGreat.V
open Go.RowKit
attribute [local irreducible] Fn FnN OpVC Ob RowFn

theorem pour_40 (F : List (Nat × D)) (now : Int) (R : Nat → List Al) (T U : List Al) (M : List ME) (c : Nat) (o2 : LO) (G : List Nat × Nat) {K : D → St → Prop} (hF : F.all (fun p => cutOk 6 4 p.2) = true) (hG : Nat.ble G.2 4 = true) (ho : ∀ r z n, LOLe r z n o2 o2) (hn : 0 ≤ now ∧ now ≤ 1099511627776) (hat : ∀ a, a ∈ R 40 → 0 ≤ a.at_ ∧ a.at_ ≤ 1099511627776) (hl : ∀ j, (R j).length ≤ 100)
    (hK : K (.tup []) ⟨F, WH now (pourR now 40 R) (R 40) U M c o2, 53, G⟩) : CallVC Tryz.prog false 65 [.loc 0 0, intD 2, intD 8] ⟨F, WH now R T U M c o2, 53, G⟩ K := by
  have hlen := hl 40
  refine toIn 4 [] Tryz.func65 rfl (by kernel_rfl) (Nat.le_of_ble_eq_true rfl) (by decide) hG rfl hF ?_
  conv => whnf
  refine ⟨by decide, ?_⟩
  conv => whnf
  refine ⟨by decide, ?_⟩
  conv => whnf
  refine ⟨by decide, ?_⟩
  conv => whnf
  refine ⟨by decide, ?_⟩
  conv => whnf
  refine ⟨Nat, fun i => ⟨[(26, intD i), (25, intD (R 40).length), (24, .grow 4), (0, .loc 0 0)], WH now (((R 40).take i).foldl (laidR now) (upd R 40 [])) (R 40) U M c o2, 53, (upto 4 0, 4)⟩, fun i => i ≤ (R 40).length, fun i => (R 40).length - i, ⟨0, [(4, 45), (45, 70)], [45], ?_, Nat.zero_le _⟩, ?_⟩
  · repeat' (first | exact trivial | exact .inl (DLe.refl _) | exact .inl (DLe.nil _ _) | (refine .inr ⟨rfl, _, ?_, rfl⟩; rfl) | exact rfl | exact Nat.zero_le _ | constructor)
    exact ho _ _ _
  · intro i hi
    have hb := fold_len now ((R 40).take i) (upd R 40 [])
    have hpos : (R 40)[i]? = none → (R 40).length ≤ i := fun h => List.getElem?_eq_none_iff.1 h
    conv => whnf
    refine Fork.intro (fun h1 => ?_) (fun h1 => ?_)
    · have hlt : (i : Int) < (R 40).length := of_decide_eq_true h1
      conv => whnf
      refine ⟨rfl, ⟨by omega, hlt⟩, ?_⟩
      conv => whnf
      refine ⟨rfl, by show (i : Int).toNat < _; omega, fun a ha => ?_⟩
      have hak : (R 40)[i]? = some a := by simpa using ha
      have hai := hat a (List.mem_of_getElem? hak)
      conv => whnf
      refine CallVC.cov (args1 := [.loc 0 0, .agg (alD a)]) [] [] ⟨[(26, intD i), (25, intD (R 40).length), (24, .grow 4), (0, .loc 0 0)], WH now (((R 40).take i).foldl (laidR now) (upd R 40 [])) (R 40) U M c o2, 53, (upto 4 0, 4)⟩ ?_ ?_ (lay_vc _ now _ _ _ _ _ o2 _ a rfl rfl ho hn hai (fun j => by
        have h2 := hb j
        have h3 : (upd R 40 [] j).length ≤ 100 := upd_nil_len hl j
        rw [List.length_take] at h2
        omega) ?_)
      · repeat' (first | exact trivial | exact .inl (DLe.refl _) | exact .inl (DLe.nil _ _) | (refine .inr ⟨rfl, _, ?_, rfl⟩; rfl) | exact rfl | exact Nat.zero_le _ | constructor)
        exact ho _ _ _
      · repeat' (first | exact trivial | exact .inl (DLe.refl _) | exact .inl (DLe.nil _ _) | (refine .inr ⟨rfl, _, ?_, rfl⟩; rfl) | exact rfl | exact Nat.zero_le _ | constructor)
      · conv => whnf
        rw [wrap_next (show i < (R 40).length by omega) (by omega)]
        refine ⟨i + 1, [], [], ?_, by show i + 1 ≤ _; omega, by show (R 40).length - (i + 1) < (R 40).length - i; omega⟩
        show Cover _ _ _ ⟨_, WH now (((R 40).take (i + 1)).foldl (laidR now) (upd R 40 [])) _ _ _ _ _, _, _⟩
        rw [take_snoc hak, List.foldl_append]
        repeat' (first | exact trivial | exact .inl (DLe.refl _) | exact .inl (DLe.nil _ _) | (refine .inr ⟨rfl, _, ?_, rfl⟩; rfl) | exact rfl | exact Nat.zero_le _ | constructor)
        exact ho _ _ _
    · have hge : ¬ (i : Int) < (R 40).length := of_decide_eq_false h1
      have hil : (R 40).take i = R 40 := List.take_of_length_le (by omega)
      conv => whnf
      rw [hil]
      refine ⟨[], [], .tup [], WH now (pourR now 40 R) (R 40) U M c o2, 53, ?_, hK⟩
      repeat' (first | exact trivial | exact .inl (DLe.refl _) | exact .inl (DLe.nil _ _) | (refine .inr ⟨rfl, _, ?_, rfl⟩; rfl) | exact rfl | exact Nat.zero_le _ | constructor)
      exact ho _ _ _

theorem pour_41 (F : List (Nat × D)) (now : Int) (R : Nat → List Al) (T U : List Al) (M : List ME) (c : Nat) (o2 : LO) (G : List Nat × Nat) {K : D → St → Prop} (hF : F.all (fun p => cutOk 6 4 p.2) = true) (hG : Nat.ble G.2 4 = true) (ho : ∀ r z n, LOLe r z n o2 o2) (hn : 0 ≤ now ∧ now ≤ 1099511627776) (hat : ∀ a, a ∈ R 41 → 0 ≤ a.at_ ∧ a.at_ ≤ 1099511627776) (hl : ∀ j, (R j).length ≤ 100)
    (hK : K (.tup []) ⟨F, WH now (pourR now 41 R) (R 41) U M c o2, 53, G⟩) : CallVC Tryz.prog false 65 [.loc 0 0, intD 2, intD 9] ⟨F, WH now R T U M c o2, 53, G⟩ K := by
  have hlen := hl 41
  refine toIn 4 [] Tryz.func65 rfl (by kernel_rfl) (Nat.le_of_ble_eq_true rfl) (by decide) hG rfl hF ?_
  conv => whnf
  refine ⟨by decide, ?_⟩
  conv => whnf
  refine ⟨by decide, ?_⟩
  conv => whnf
  refine ⟨by decide, ?_⟩
  conv => whnf
  refine ⟨by decide, ?_⟩
  conv => whnf
  refine ⟨Nat, fun i => ⟨[(26, intD i), (25, intD (R 41).length), (24, .grow 4), (0, .loc 0 0)], WH now (((R 41).take i).foldl (laidR now) (upd R 41 [])) (R 41) U M c o2, 53, (upto 4 0, 4)⟩, fun i => i ≤ (R 41).length, fun i => (R 41).length - i, ⟨0, [(4, 46), (46, 70)], [46], ?_, Nat.zero_le _⟩, ?_⟩
  · repeat' (first | exact trivial | exact .inl (DLe.refl _) | exact .inl (DLe.nil _ _) | (refine .inr ⟨rfl, _, ?_, rfl⟩; rfl) | exact rfl | exact Nat.zero_le _ | constructor)
    exact ho _ _ _
  · intro i hi
    have hb := fold_len now ((R 41).take i) (upd R 41 [])
    have hpos : (R 41)[i]? = none → (R 41).length ≤ i := fun h => List.getElem?_eq_none_iff.1 h
    conv => whnf
    refine Fork.intro (fun h1 => ?_) (fun h1 => ?_)
    · have hlt : (i : Int) < (R 41).length := of_decide_eq_true h1
      conv => whnf
      refine ⟨rfl, ⟨by omega, hlt⟩, ?_⟩
      conv => whnf
      refine ⟨rfl, by show (i : Int).toNat < _; omega, fun a ha => ?_⟩
      have hak : (R 41)[i]? = some a := by simpa using ha
      have hai := hat a (List.mem_of_getElem? hak)
      conv => whnf
      refine CallVC.cov (args1 := [.loc 0 0, .agg (alD a)]) [] [] ⟨[(26, intD i), (25, intD (R 41).length), (24, .grow 4), (0, .loc 0 0)], WH now (((R 41).take i).foldl (laidR now) (upd R 41 [])) (R 41) U M c o2, 53, (upto 4 0, 4)⟩ ?_ ?_ (lay_vc _ now _ _ _ _ _ o2 _ a rfl rfl ho hn hai (fun j => by
        have h2 := hb j
        have h3 : (upd R 41 [] j).length ≤ 100 := upd_nil_len hl j
        rw [List.length_take] at h2
        omega) ?_)
      · repeat' (first | exact trivial | exact .inl (DLe.refl _) | exact .inl (DLe.nil _ _) | (refine .inr ⟨rfl, _, ?_, rfl⟩; rfl) | exact rfl | exact Nat.zero_le _ | constructor)
        exact ho _ _ _
      · repeat' (first | exact trivial | exact .inl (DLe.refl _) | exact .inl (DLe.nil _ _) | (refine .inr ⟨rfl, _, ?_, rfl⟩; rfl) | exact rfl | exact Nat.zero_le _ | constructor)
      · conv => whnf
        rw [wrap_next (show i < (R 41).length by omega) (by omega)]
        refine ⟨i + 1, [], [], ?_, by show i + 1 ≤ _; omega, by show (R 41).length - (i + 1) < (R 41).length - i; omega⟩
        show Cover _ _ _ ⟨_, WH now (((R 41).take (i + 1)).foldl (laidR now) (upd R 41 [])) _ _ _ _ _, _, _⟩
        rw [take_snoc hak, List.foldl_append]
        repeat' (first | exact trivial | exact .inl (DLe.refl _) | exact .inl (DLe.nil _ _) | (refine .inr ⟨rfl, _, ?_, rfl⟩; rfl) | exact rfl | exact Nat.zero_le _ | constructor)
        exact ho _ _ _
    · have hge : ¬ (i : Int) < (R 41).length := of_decide_eq_false h1
      have hil : (R 41).take i = R 41 := List.take_of_length_le (by omega)
      conv => whnf
      rw [hil]
      refine ⟨[], [], .tup [], WH now (pourR now 41 R) (R 41) U M c o2, 53, ?_, hK⟩
      repeat' (first | exact trivial | exact .inl (DLe.refl _) | exact .inl (DLe.nil _ _) | (refine .inr ⟨rfl, _, ?_, rfl⟩; rfl) | exact rfl | exact Nat.zero_le _ | constructor)
      exact ho _ _ _

theorem pour_42 (F : List (Nat × D)) (now : Int) (R : Nat → List Al) (T U : List Al) (M : List ME) (c : Nat) (o2 : LO) (G : List Nat × Nat) {K : D → St → Prop} (hF : F.all (fun p => cutOk 6 4 p.2) = true) (hG : Nat.ble G.2 4 = true) (ho : ∀ r z n, LOLe r z n o2 o2) (hn : 0 ≤ now ∧ now ≤ 1099511627776) (hat : ∀ a, a ∈ R 42 → 0 ≤ a.at_ ∧ a.at_ ≤ 1099511627776) (hl : ∀ j, (R j).length ≤ 100)
    (hK : K (.tup []) ⟨F, WH now (pourR now 42 R) (R 42) U M c o2, 53, G⟩) : CallVC Tryz.prog false 65 [.loc 0 0, intD 2, intD 10] ⟨F, WH now R T U M c o2, 53, G⟩ K := by
  have hlen := hl 42
  refine toIn 4 [] Tryz.func65 rfl (by kernel_rfl) (Nat.le_of_ble_eq_true rfl) (by decide) hG rfl hF ?_
  conv => whnf
  refine ⟨by decide, ?_⟩
  conv => whnf
  refine ⟨by decide, ?_⟩
  conv => whnf
  refine ⟨by decide, ?_⟩
  conv => whnf
  refine ⟨by decide, ?_⟩
  conv => whnf
  refine ⟨Nat, fun i => ⟨[(26, intD i), (25, intD (R 42).length), (24, .grow 4), (0, .loc 0 0)], WH now (((R 42).take i).foldl (laidR now) (upd R 42 [])) (R 42) U M c o2, 53, (upto 4 0, 4)⟩, fun i => i ≤ (R 42).length, fun i => (R 42).length - i, ⟨0, [(4, 47), (47, 70)], [47], ?_, Nat.zero_le _⟩, ?_⟩
  · repeat' (first | exact trivial | exact .inl (DLe.refl _) | exact .inl (DLe.nil _ _) | (refine .inr ⟨rfl, _, ?_, rfl⟩; rfl) | exact rfl | exact Nat.zero_le _ | constructor)
    exact ho _ _ _
  · intro i hi
    have hb := fold_len now ((R 42).take i) (upd R 42 [])
    have hpos : (R 42)[i]? = none → (R 42).length ≤ i := fun h => List.getElem?_eq_none_iff.1 h
    conv => whnf
    refine Fork.intro (fun h1 => ?_) (fun h1 => ?_)
    · have hlt : (i : Int) < (R 42).length := of_decide_eq_true h1
      conv => whnf
      refine ⟨rfl, ⟨by omega, hlt⟩, ?_⟩
      conv => whnf
      refine ⟨rfl, by show (i : Int).toNat < _; omega, fun a ha => ?_⟩
      have hak : (R 42)[i]? = some a := by simpa using ha
      have hai := hat a (List.mem_of_getElem? hak)
      conv => whnf
      refine CallVC.cov (args1 := [.loc 0 0, .agg (alD a)]) [] [] ⟨[(26, intD i), (25, intD (R 42).length), (24, .grow 4), (0, .loc 0 0)], WH now (((R 42).take i).foldl (laidR now) (upd R 42 [])) (R 42) U M c o2, 53, (upto 4 0, 4)⟩ ?_ ?_ (lay_vc _ now _ _ _ _ _ o2 _ a rfl rfl ho hn hai (fun j => by
        have h2 := hb j
        have h3 : (upd R 42 [] j).length ≤ 100 := upd_nil_len hl j
        rw [List.length_take] at h2
        omega) ?_)
      · repeat' (first | exact trivial | exact .inl (DLe.refl _) | exact .inl (DLe.nil _ _) | (refine .inr ⟨rfl, _, ?_, rfl⟩; rfl) | exact rfl | exact Nat.zero_le _ | constructor)
        exact ho _ _ _
      · repeat' (first | exact trivial | exact .inl (DLe.refl _) | exact .inl (DLe.nil _ _) | (refine .inr ⟨rfl, _, ?_, rfl⟩; rfl) | exact rfl | exact Nat.zero_le _ | constructor)
      · conv => whnf
        rw [wrap_next (show i < (R 42).length by omega) (by omega)]
        refine ⟨i + 1, [], [], ?_, by show i + 1 ≤ _; omega, by show (R 42).length - (i + 1) < (R 42).length - i; omega⟩
        show Cover _ _ _ ⟨_, WH now (((R 42).take (i + 1)).foldl (laidR now) (upd R 42 [])) _ _ _ _ _, _, _⟩
        rw [take_snoc hak, List.foldl_append]
        repeat' (first | exact trivial | exact .inl (DLe.refl _) | exact .inl (DLe.nil _ _) | (refine .inr ⟨rfl, _, ?_, rfl⟩; rfl) | exact rfl | exact Nat.zero_le _ | constructor)
        exact ho _ _ _
    · have hge : ¬ (i : Int) < (R 42).length := of_decide_eq_false h1
      have hil : (R 42).take i = R 42 := List.take_of_length_le (by omega)
      conv => whnf
      rw [hil]
      refine ⟨[], [], .tup [], WH now (pourR now 42 R) (R 42) U M c o2, 53, ?_, hK⟩
      repeat' (first | exact trivial | exact .inl (DLe.refl _) | exact .inl (DLe.nil _ _) | (refine .inr ⟨rfl, _, ?_, rfl⟩; rfl) | exact rfl | exact Nat.zero_le _ | constructor)
      exact ho _ _ _

theorem pour_43 (F : List (Nat × D)) (now : Int) (R : Nat → List Al) (T U : List Al) (M : List ME) (c : Nat) (o2 : LO) (G : List Nat × Nat) {K : D → St → Prop} (hF : F.all (fun p => cutOk 6 4 p.2) = true) (hG : Nat.ble G.2 4 = true) (ho : ∀ r z n, LOLe r z n o2 o2) (hn : 0 ≤ now ∧ now ≤ 1099511627776) (hat : ∀ a, a ∈ R 43 → 0 ≤ a.at_ ∧ a.at_ ≤ 1099511627776) (hl : ∀ j, (R j).length ≤ 100)
    (hK : K (.tup []) ⟨F, WH now (pourR now 43 R) (R 43) U M c o2, 53, G⟩) : CallVC Tryz.prog false 65 [.loc 0 0, intD 2, intD 11] ⟨F, WH now R T U M c o2, 53, G⟩ K := by
  have hlen := hl 43
  refine toIn 4 [] Tryz.func65 rfl (by kernel_rfl) (Nat.le_of_ble_eq_true rfl) (by decide) hG rfl hF ?_
  conv => whnf
  refine ⟨by decide, ?_⟩
  conv => whnf
  refine ⟨by decide, ?_⟩
  conv => whnf
  refine ⟨by decide, ?_⟩
  conv => whnf
  refine ⟨by decide, ?_⟩
  conv => whnf
  refine ⟨Nat, fun i => ⟨[(26, intD i), (25, intD (R 43).length), (24, .grow 4), (0, .loc 0 0)], WH now (((R 43).take i).foldl (laidR now) (upd R 43 [])) (R 43) U M c o2, 53, (upto 4 0, 4)⟩, fun i => i ≤ (R 43).length, fun i => (R 43).length - i, ⟨0, [(4, 48), (48, 70)], [48], ?_, Nat.zero_le _⟩, ?_⟩
  · repeat' (first | exact trivial | exact .inl (DLe.refl _) | exact .inl (DLe.nil _ _) | (refine .inr ⟨rfl, _, ?_, rfl⟩; rfl) | exact rfl | exact Nat.zero_le _ | constructor)
    exact ho _ _ _
  · intro i hi
    have hb := fold_len now ((R 43).take i) (upd R 43 [])
    have hpos : (R 43)[i]? = none → (R 43).length ≤ i := fun h => List.getElem?_eq_none_iff.1 h
    conv => whnf
    refine Fork.intro (fun h1 => ?_) (fun h1 => ?_)
    · have hlt : (i : Int) < (R 43).length := of_decide_eq_true h1
      conv => whnf
      refine ⟨rfl, ⟨by omega, hlt⟩, ?_⟩
      conv => whnf
      refine ⟨rfl, by show (i : Int).toNat < _; omega, fun a ha => ?_⟩
      have hak : (R 43)[i]? = some a := by simpa using ha
      have hai := hat a (List.mem_of_getElem? hak)
      conv => whnf
      refine CallVC.cov (args1 := [.loc 0 0, .agg (alD a)]) [] [] ⟨[(26, intD i), (25, intD (R 43).length), (24, .grow 4), (0, .loc 0 0)], WH now (((R 43).take i).foldl (laidR now) (upd R 43 [])) (R 43) U M c o2, 53, (upto 4 0, 4)⟩ ?_ ?_ (lay_vc _ now _ _ _ _ _ o2 _ a rfl rfl ho hn hai (fun j => by
        have h2 := hb j
        have h3 : (upd R 43 [] j).length ≤ 100 := upd_nil_len hl j
        rw [List.length_take] at h2
        omega) ?_)
      · repeat' (first | exact trivial | exact .inl (DLe.refl _) | exact .inl (DLe.nil _ _) | (refine .inr ⟨rfl, _, ?_, rfl⟩; rfl) | exact rfl | exact Nat.zero_le _ | constructor)
        exact ho _ _ _
      · repeat' (first | exact trivial | exact .inl (DLe.refl _) | exact .inl (DLe.nil _ _) | (refine .inr ⟨rfl, _, ?_, rfl⟩; rfl) | exact rfl | exact Nat.zero_le _ | constructor)
      · conv => whnf
        rw [wrap_next (show i < (R 43).length by omega) (by omega)]
        refine ⟨i + 1, [], [], ?_, by show i + 1 ≤ _; omega, by show (R 43).length - (i + 1) < (R 43).length - i; omega⟩
        show Cover _ _ _ ⟨_, WH now (((R 43).take (i + 1)).foldl (laidR now) (upd R 43 [])) _ _ _ _ _, _, _⟩
        rw [take_snoc hak, List.foldl_append]
        repeat' (first | exact trivial | exact .inl (DLe.refl _) | exact .inl (DLe.nil _ _) | (refine .inr ⟨rfl, _, ?_, rfl⟩; rfl) | exact rfl | exact Nat.zero_le _ | constructor)
        exact ho _ _ _
    · have hge : ¬ (i : Int) < (R 43).length := of_decide_eq_false h1
      have hil : (R 43).take i = R 43 := List.take_of_length_le (by omega)
      conv => whnf
      rw [hil]
      refine ⟨[], [], .tup [], WH now (pourR now 43 R) (R 43) U M c o2, 53, ?_, hK⟩
      repeat' (first | exact trivial | exact .inl (DLe.refl _) | exact .inl (DLe.nil _ _) | (refine .inr ⟨rfl, _, ?_, rfl⟩; rfl) | exact rfl | exact Nat.zero_le _ | constructor)
      exact ho _ _ _

theorem pour_44 (F : List (Nat × D)) (now : Int) (R : Nat → List Al) (T U : List Al) (M : List ME) (c : Nat) (o2 : LO) (G : List Nat × Nat) {K : D → St → Prop} (hF : F.all (fun p => cutOk 6 4 p.2) = true) (hG : Nat.ble G.2 4 = true) (ho : ∀ r z n, LOLe r z n o2 o2) (hn : 0 ≤ now ∧ now ≤ 1099511627776) (hat : ∀ a, a ∈ R 44 → 0 ≤ a.at_ ∧ a.at_ ≤ 1099511627776) (hl : ∀ j, (R j).length ≤ 100)
    (hK : K (.tup []) ⟨F, WH now (pourR now 44 R) (R 44) U M c o2, 53, G⟩) : CallVC Tryz.prog false 65 [.loc 0 0, intD 2, intD 12] ⟨F, WH now R T U M c o2, 53, G⟩ K := by
  have hlen := hl 44
  refine toIn 4 [] Tryz.func65 rfl (by kernel_rfl) (Nat.le_of_ble_eq_true rfl) (by decide) hG rfl hF ?_
  conv => whnf
  refine ⟨by decide, ?_⟩
  conv => whnf
  refine ⟨by decide, ?_⟩
  conv => whnf
  refine ⟨by decide, ?_⟩
  conv => whnf
  refine ⟨by decide, ?_⟩
  conv => whnf
  refine ⟨Nat, fun i => ⟨[(26, intD i), (25, intD (R 44).length), (24, .grow 4), (0, .loc 0 0)], WH now (((R 44).take i).foldl (laidR now) (upd R 44 [])) (R 44) U M c o2, 53, (upto 4 0, 4)⟩, fun i => i ≤ (R 44).length, fun i => (R 44).length - i, ⟨0, [(4, 49), (49, 70)], [49], ?_, Nat.zero_le _⟩, ?_⟩
  · repeat' (first | exact trivial | exact .inl (DLe.refl _) | exact .inl (DLe.nil _ _) | (refine .inr ⟨rfl, _, ?_, rfl⟩; rfl) | exact rfl | exact Nat.zero_le _ | constructor)
    exact ho _ _ _
  · intro i hi
    have hb := fold_len now ((R 44).take i) (upd R 44 [])
    have hpos : (R 44)[i]? = none → (R 44).length ≤ i := fun h => List.getElem?_eq_none_iff.1 h
    conv => whnf
    refine Fork.intro (fun h1 => ?_) (fun h1 => ?_)
    · have hlt : (i : Int) < (R 44).length := of_decide_eq_true h1
      conv => whnf
      refine ⟨rfl, ⟨by omega, hlt⟩, ?_⟩
      conv => whnf
      refine ⟨rfl, by show (i : Int).toNat < _; omega, fun a ha => ?_⟩
      have hak : (R 44)[i]? = some a := by simpa using ha
      have hai := hat a (List.mem_of_getElem? hak)
      conv => whnf
      refine CallVC.cov (args1 := [.loc 0 0, .agg (alD a)]) [] [] ⟨[(26, intD i), (25, intD (R 44).length), (24, .grow 4), (0, .loc 0 0)], WH now (((R 44).take i).foldl (laidR now) (upd R 44 [])) (R 44) U M c o2, 53, (upto 4 0, 4)⟩ ?_ ?_ (lay_vc _ now _ _ _ _ _ o2 _ a rfl rfl ho hn hai (fun j => by
        have h2 := hb j
        have h3 : (upd R 44 [] j).length ≤ 100 := upd_nil_len hl j
        rw [List.length_take] at h2
        omega) ?_)
      · repeat' (first | exact trivial | exact .inl (DLe.refl _) | exact .inl (DLe.nil _ _) | (refine .inr ⟨rfl, _, ?_, rfl⟩; rfl) | exact rfl | exact Nat.zero_le _ | constructor)
        exact ho _ _ _
      · repeat' (first | exact trivial | exact .inl (DLe.refl _) | exact .inl (DLe.nil _ _) | (refine .inr ⟨rfl, _, ?_, rfl⟩; rfl) | exact rfl | exact Nat.zero_le _ | constructor)
      · conv => whnf
        rw [wrap_next (show i < (R 44).length by omega) (by omega)]
        refine ⟨i + 1, [], [], ?_, by show i + 1 ≤ _; omega, by show (R 44).length - (i + 1) < (R 44).length - i; omega⟩
        show Cover _ _ _ ⟨_, WH now (((R 44).take (i + 1)).foldl (laidR now) (upd R 44 [])) _ _ _ _ _, _, _⟩
        rw [take_snoc hak, List.foldl_append]
        repeat' (first | exact trivial | exact .inl (DLe.refl _) | exact .inl (DLe.nil _ _) | (refine .inr ⟨rfl, _, ?_, rfl⟩; rfl) | exact rfl | exact Nat.zero_le _ | constructor)
        exact ho _ _ _
    · have hge : ¬ (i : Int) < (R 44).length := of_decide_eq_false h1
      have hil : (R 44).take i = R 44 := List.take_of_length_le (by omega)
      conv => whnf
      rw [hil]
      refine ⟨[], [], .tup [], WH now (pourR now 44 R) (R 44) U M c o2, 53, ?_, hK⟩
      repeat' (first | exact trivial | exact .inl (DLe.refl _) | exact .inl (DLe.nil _ _) | (refine .inr ⟨rfl, _, ?_, rfl⟩; rfl) | exact rfl | exact Nat.zero_le _ | constructor)
      exact ho _ _ _

theorem pour_45 (F : List (Nat × D)) (now : Int) (R : Nat → List Al) (T U : List Al) (M : List ME) (c : Nat) (o2 : LO) (G : List Nat × Nat) {K : D → St → Prop} (hF : F.all (fun p => cutOk 6 4 p.2) = true) (hG : Nat.ble G.2 4 = true) (ho : ∀ r z n, LOLe r z n o2 o2) (hn : 0 ≤ now ∧ now ≤ 1099511627776) (hat : ∀ a, a ∈ R 45 → 0 ≤ a.at_ ∧ a.at_ ≤ 1099511627776) (hl : ∀ j, (R j).length ≤ 100)
    (hK : K (.tup []) ⟨F, WH now (pourR now 45 R) (R 45) U M c o2, 53, G⟩) : CallVC Tryz.prog false 65 [.loc 0 0, intD 2, intD 13] ⟨F, WH now R T U M c o2, 53, G⟩ K := by
  have hlen := hl 45
  refine toIn 4 [] Tryz.func65 rfl (by kernel_rfl) (Nat.le_of_ble_eq_true rfl) (by decide) hG rfl hF ?_
  conv => whnf
  refine ⟨by decide, ?_⟩
  conv => whnf
  refine ⟨by decide, ?_⟩
  conv => whnf
  refine ⟨by decide, ?_⟩
  conv => whnf
  refine ⟨by decide, ?_⟩
  conv => whnf
  refine ⟨Nat, fun i => ⟨[(26, intD i), (25, intD (R 45).length), (24, .grow 4), (0, .loc 0 0)], WH now (((R 45).take i).foldl (laidR now) (upd R 45 [])) (R 45) U M c o2, 53, (upto 4 0, 4)⟩, fun i => i ≤ (R 45).length, fun i => (R 45).length - i, ⟨0, [(4, 50), (50, 70)], [50], ?_, Nat.zero_le _⟩, ?_⟩
  · repeat' (first | exact trivial | exact .inl (DLe.refl _) | exact .inl (DLe.nil _ _) | (refine .inr ⟨rfl, _, ?_, rfl⟩; rfl) | exact rfl | exact Nat.zero_le _ | constructor)
    exact ho _ _ _
  · intro i hi
    have hb := fold_len now ((R 45).take i) (upd R 45 [])
    have hpos : (R 45)[i]? = none → (R 45).length ≤ i := fun h => List.getElem?_eq_none_iff.1 h
    conv => whnf
    refine Fork.intro (fun h1 => ?_) (fun h1 => ?_)
    · have hlt : (i : Int) < (R 45).length := of_decide_eq_true h1
      conv => whnf
      refine ⟨rfl, ⟨by omega, hlt⟩, ?_⟩
      conv => whnf
      refine ⟨rfl, by show (i : Int).toNat < _; omega, fun a ha => ?_⟩
      have hak : (R 45)[i]? = some a := by simpa using ha
      have hai := hat a (List.mem_of_getElem? hak)
      conv => whnf
      refine CallVC.cov (args1 := [.loc 0 0, .agg (alD a)]) [] [] ⟨[(26, intD i), (25, intD (R 45).length), (24, .grow 4), (0, .loc 0 0)], WH now (((R 45).take i).foldl (laidR now) (upd R 45 [])) (R 45) U M c o2, 53, (upto 4 0, 4)⟩ ?_ ?_ (lay_vc _ now _ _ _ _ _ o2 _ a rfl rfl ho hn hai (fun j => by
        have h2 := hb j
        have h3 : (upd R 45 [] j).length ≤ 100 := upd_nil_len hl j
        rw [List.length_take] at h2
        omega) ?_)
      · repeat' (first | exact trivial | exact .inl (DLe.refl _) | exact .inl (DLe.nil _ _) | (refine .inr ⟨rfl, _, ?_, rfl⟩; rfl) | exact rfl | exact Nat.zero_le _ | constructor)
        exact ho _ _ _
      · repeat' (first | exact trivial | exact .inl (DLe.refl _) | exact .inl (DLe.nil _ _) | (refine .inr ⟨rfl, _, ?_, rfl⟩; rfl) | exact rfl | exact Nat.zero_le _ | constructor)
      · conv => whnf
        rw [wrap_next (show i < (R 45).length by omega) (by omega)]
        refine ⟨i + 1, [], [], ?_, by show i + 1 ≤ _; omega, by show (R 45).length - (i + 1) < (R 45).length - i; omega⟩
        show Cover _ _ _ ⟨_, WH now (((R 45).take (i + 1)).foldl (laidR now) (upd R 45 [])) _ _ _ _ _, _, _⟩
        rw [take_snoc hak, List.foldl_append]
        repeat' (first | exact trivial | exact .inl (DLe.refl _) | exact .inl (DLe.nil _ _) | (refine .inr ⟨rfl, _, ?_, rfl⟩; rfl) | exact rfl | exact Nat.zero_le _ | constructor)
        exact ho _ _ _
    · have hge : ¬ (i : Int) < (R 45).length := of_decide_eq_false h1
      have hil : (R 45).take i = R 45 := List.take_of_length_le (by omega)
      conv => whnf
      rw [hil]
      refine ⟨[], [], .tup [], WH now (pourR now 45 R) (R 45) U M c o2, 53, ?_, hK⟩
      repeat' (first | exact trivial | exact .inl (DLe.refl _) | exact .inl (DLe.nil _ _) | (refine .inr ⟨rfl, _, ?_, rfl⟩; rfl) | exact rfl | exact Nat.zero_le _ | constructor)
      exact ho _ _ _

theorem pour_46 (F : List (Nat × D)) (now : Int) (R : Nat → List Al) (T U : List Al) (M : List ME) (c : Nat) (o2 : LO) (G : List Nat × Nat) {K : D → St → Prop} (hF : F.all (fun p => cutOk 6 4 p.2) = true) (hG : Nat.ble G.2 4 = true) (ho : ∀ r z n, LOLe r z n o2 o2) (hn : 0 ≤ now ∧ now ≤ 1099511627776) (hat : ∀ a, a ∈ R 46 → 0 ≤ a.at_ ∧ a.at_ ≤ 1099511627776) (hl : ∀ j, (R j).length ≤ 100)
    (hK : K (.tup []) ⟨F, WH now (pourR now 46 R) (R 46) U M c o2, 53, G⟩) : CallVC Tryz.prog false 65 [.loc 0 0, intD 2, intD 14] ⟨F, WH now R T U M c o2, 53, G⟩ K := by
  have hlen := hl 46
  refine toIn 4 [] Tryz.func65 rfl (by kernel_rfl) (Nat.le_of_ble_eq_true rfl) (by decide) hG rfl hF ?_
  conv => whnf
  refine ⟨by decide, ?_⟩
  conv => whnf
  refine ⟨by decide, ?_⟩
  conv => whnf
  refine ⟨by decide, ?_⟩
  conv => whnf
  refine ⟨by decide, ?_⟩
  conv => whnf
  refine ⟨Nat, fun i => ⟨[(26, intD i), (25, intD (R 46).length), (24, .grow 4), (0, .loc 0 0)], WH now (((R 46).take i).foldl (laidR now) (upd R 46 [])) (R 46) U M c o2, 53, (upto 4 0, 4)⟩, fun i => i ≤ (R 46).length, fun i => (R 46).length - i, ⟨0, [(4, 51), (51, 70)], [51], ?_, Nat.zero_le _⟩, ?_⟩
  · repeat' (first | exact trivial | exact .inl (DLe.refl _) | exact .inl (DLe.nil _ _) | (refine .inr ⟨rfl, _, ?_, rfl⟩; rfl) | exact rfl | exact Nat.zero_le _ | constructor)
    exact ho _ _ _
  · intro i hi
    have hb := fold_len now ((R 46).take i) (upd R 46 [])
    have hpos : (R 46)[i]? = none → (R 46).length ≤ i := fun h => List.getElem?_eq_none_iff.1 h
    conv => whnf
    refine Fork.intro (fun h1 => ?_) (fun h1 => ?_)
    · have hlt : (i : Int) < (R 46).length := of_decide_eq_true h1
      conv => whnf
      refine ⟨rfl, ⟨by omega, hlt⟩, ?_⟩
      conv => whnf
      refine ⟨rfl, by show (i : Int).toNat < _; omega, fun a ha => ?_⟩
      have hak : (R 46)[i]? = some a := by simpa using ha
      have hai := hat a (List.mem_of_getElem? hak)
      conv => whnf
      refine CallVC.cov (args1 := [.loc 0 0, .agg (alD a)]) [] [] ⟨[(26, intD i), (25, intD (R 46).length), (24, .grow 4), (0, .loc 0 0)], WH now (((R 46).take i).foldl (laidR now) (upd R 46 [])) (R 46) U M c o2, 53, (upto 4 0, 4)⟩ ?_ ?_ (lay_vc _ now _ _ _ _ _ o2 _ a rfl rfl ho hn hai (fun j => by
        have h2 := hb j
        have h3 : (upd R 46 [] j).length ≤ 100 := upd_nil_len hl j
        rw [List.length_take] at h2
        omega) ?_)
      · repeat' (first | exact trivial | exact .inl (DLe.refl _) | exact .inl (DLe.nil _ _) | (refine .inr ⟨rfl, _, ?_, rfl⟩; rfl) | exact rfl | exact Nat.zero_le _ | constructor)
        exact ho _ _ _
      · repeat' (first | exact trivial | exact .inl (DLe.refl _) | exact .inl (DLe.nil _ _) | (refine .inr ⟨rfl, _, ?_, rfl⟩; rfl) | exact rfl | exact Nat.zero_le _ | constructor)
      · conv => whnf
        rw [wrap_next (show i < (R 46).length by omega) (by omega)]
        refine ⟨i + 1, [], [], ?_, by show i + 1 ≤ _; omega, by show (R 46).length - (i + 1) < (R 46).length - i; omega⟩
        show Cover _ _ _ ⟨_, WH now (((R 46).take (i + 1)).foldl (laidR now) (upd R 46 [])) _ _ _ _ _, _, _⟩
        rw [take_snoc hak, List.foldl_append]
        repeat' (first | exact trivial | exact .inl (DLe.refl _) | exact .inl (DLe.nil _ _) | (refine .inr ⟨rfl, _, ?_, rfl⟩; rfl) | exact rfl | exact Nat.zero_le _ | constructor)
        exact ho _ _ _
    · have hge : ¬ (i : Int) < (R 46).length := of_decide_eq_false h1
      have hil : (R 46).take i = R 46 := List.take_of_length_le (by omega)
      conv => whnf
      rw [hil]
      refine ⟨[], [], .tup [], WH now (pourR now 46 R) (R 46) U M c o2, 53, ?_, hK⟩
      repeat' (first | exact trivial | exact .inl (DLe.refl _) | exact .inl (DLe.nil _ _) | (refine .inr ⟨rfl, _, ?_, rfl⟩; rfl) | exact rfl | exact Nat.zero_le _ | constructor)
      exact ho _ _ _

theorem pour_47 (F : List (Nat × D)) (now : Int) (R : Nat → List Al) (T U : List Al) (M : List ME) (c : Nat) (o2 : LO) (G : List Nat × Nat) {K : D → St → Prop} (hF : F.all (fun p => cutOk 6 4 p.2) = true) (hG : Nat.ble G.2 4 = true) (ho : ∀ r z n, LOLe r z n o2 o2) (hn : 0 ≤ now ∧ now ≤ 1099511627776) (hat : ∀ a, a ∈ R 47 → 0 ≤ a.at_ ∧ a.at_ ≤ 1099511627776) (hl : ∀ j, (R j).length ≤ 100)
    (hK : K (.tup []) ⟨F, WH now (pourR now 47 R) (R 47) U M c o2, 53, G⟩) : CallVC Tryz.prog false 65 [.loc 0 0, intD 2, intD 15] ⟨F, WH now R T U M c o2, 53, G⟩ K := by
  have hlen := hl 47
  refine toIn 4 [] Tryz.func65 rfl (by kernel_rfl) (Nat.le_of_ble_eq_true rfl) (by decide) hG rfl hF ?_
  conv => whnf
  refine ⟨by decide, ?_⟩
  conv => whnf
  refine ⟨by decide, ?_⟩
  conv => whnf
  refine ⟨by decide, ?_⟩
  conv => whnf
  refine ⟨by decide, ?_⟩
  conv => whnf
  refine ⟨Nat, fun i => ⟨[(26, intD i), (25, intD (R 47).length), (24, .grow 4), (0, .loc 0 0)], WH now (((R 47).take i).foldl (laidR now) (upd R 47 [])) (R 47) U M c o2, 53, (upto 4 0, 4)⟩, fun i => i ≤ (R 47).length, fun i => (R 47).length - i, ⟨0, [(4, 52), (52, 70)], [52], ?_, Nat.zero_le _⟩, ?_⟩
  · repeat' (first | exact trivial | exact .inl (DLe.refl _) | exact .inl (DLe.nil _ _) | (refine .inr ⟨rfl, _, ?_, rfl⟩; rfl) | exact rfl | exact Nat.zero_le _ | constructor)
    exact ho _ _ _
  · intro i hi
    have hb := fold_len now ((R 47).take i) (upd R 47 [])
    have hpos : (R 47)[i]? = none → (R 47).length ≤ i := fun h => List.getElem?_eq_none_iff.1 h
    conv => whnf
    refine Fork.intro (fun h1 => ?_) (fun h1 => ?_)
    · have hlt : (i : Int) < (R 47).length := of_decide_eq_true h1
      conv => whnf
      refine ⟨rfl, ⟨by omega, hlt⟩, ?_⟩
      conv => whnf
      refine ⟨rfl, by show (i : Int).toNat < _; omega, fun a ha => ?_⟩
      have hak : (R 47)[i]? = some a := by simpa using ha
      have hai := hat a (List.mem_of_getElem? hak)
      conv => whnf
      refine CallVC.cov (args1 := [.loc 0 0, .agg (alD a)]) [] [] ⟨[(26, intD i), (25, intD (R 47).length), (24, .grow 4), (0, .loc 0 0)], WH now (((R 47).take i).foldl (laidR now) (upd R 47 [])) (R 47) U M c o2, 53, (upto 4 0, 4)⟩ ?_ ?_ (lay_vc _ now _ _ _ _ _ o2 _ a rfl rfl ho hn hai (fun j => by
        have h2 := hb j
        have h3 : (upd R 47 [] j).length ≤ 100 := upd_nil_len hl j
        rw [List.length_take] at h2
        omega) ?_)
      · repeat' (first | exact trivial | exact .inl (DLe.refl _) | exact .inl (DLe.nil _ _) | (refine .inr ⟨rfl, _, ?_, rfl⟩; rfl) | exact rfl | exact Nat.zero_le _ | constructor)
        exact ho _ _ _
      · repeat' (first | exact trivial | exact .inl (DLe.refl _) | exact .inl (DLe.nil _ _) | (refine .inr ⟨rfl, _, ?_, rfl⟩; rfl) | exact rfl | exact Nat.zero_le _ | constructor)
      · conv => whnf
        rw [wrap_next (show i < (R 47).length by omega) (by omega)]
        refine ⟨i + 1, [], [], ?_, by show i + 1 ≤ _; omega, by show (R 47).length - (i + 1) < (R 47).length - i; omega⟩
        show Cover _ _ _ ⟨_, WH now (((R 47).take (i + 1)).foldl (laidR now) (upd R 47 [])) _ _ _ _ _, _, _⟩
        rw [take_snoc hak, List.foldl_append]
        repeat' (first | exact trivial | exact .inl (DLe.refl _) | exact .inl (DLe.nil _ _) | (refine .inr ⟨rfl, _, ?_, rfl⟩; rfl) | exact rfl | exact Nat.zero_le _ | constructor)
        exact ho _ _ _
    · have hge : ¬ (i : Int) < (R 47).length := of_decide_eq_false h1
      have hil : (R 47).take i = R 47 := List.take_of_length_le (by omega)
      conv => whnf
      rw [hil]
      refine ⟨[], [], .tup [], WH now (pourR now 47 R) (R 47) U M c o2, 53, ?_, hK⟩
      repeat' (first | exact trivial | exact .inl (DLe.refl _) | exact .inl (DLe.nil _ _) | (refine .inr ⟨rfl, _, ?_, rfl⟩; rfl) | exact rfl | exact Nat.zero_le _ | constructor)
      exact ho _ _ _
end Go.Proofs.YtcbpdjikdohegaaGreat.V
