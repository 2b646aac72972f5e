/-
  A place of a later row is poured, place by place. Conditions: ticks not too great, rows not too long.
  A place of a later row is poured, place by place. Conditions: ticks not too great, rows not too long.
-/
import Derived.Test.YtcbpdjikdohegaaGreatK5
namespace Go.Proofs.YtcbpdjikdohegaaGreat.V
open Go.RowKit
attribute [local irreducible] Fn FnN OpVC Ob RowFn

theorem pour_16 (F : List (Nat × D)) (now : Int) (R : Nat → List Al) (T U : List Al) (M : List ME) (c : Nat) (o2 : LO) (G : List Nat × Nat) {K : D → St → Prop} (hF : F.all (fun p => cutOk 6 4 p.2) = true) (hG : Nat.ble G.2 4 = true) (ho : ∀ r z n, LOLe r z n o2 o2) (hn : 0 ≤ now ∧ now ≤ 1099511627776) (hat : ∀ a, a ∈ R 16 → 0 ≤ a.at_ ∧ a.at_ ≤ 1099511627776) (hl : ∀ j, (R j).length ≤ 100)
    (hK : K (.tup []) ⟨F, WH now (pourR now 16 R) (R 16) U M c o2, 53, G⟩) : CallVC Tryz.prog false 65 [.loc 0 0, intD 1, intD 0] ⟨F, WH now R T U M c o2, 53, G⟩ K := by
  have hlen := hl 16
  refine toIn 4 [] Tryz.func65 rfl (by kernel_rfl) (Nat.le_of_ble_eq_true rfl) (by decide) hG rfl hF ?_
  conv => whnf
  refine ⟨by decide, ?_⟩
  conv => whnf
  refine ⟨by decide, ?_⟩
  conv => whnf
  refine ⟨by decide, ?_⟩
  conv => whnf
  refine ⟨by decide, ?_⟩
  conv => whnf
  refine ⟨Nat, fun i => ⟨[(26, intD i), (25, intD (R 16).length), (24, .grow 4), (0, .loc 0 0)], WH now (((R 16).take i).foldl (laidR now) (upd R 16 [])) (R 16) U M c o2, 53, (upto 4 0, 4)⟩, fun i => i ≤ (R 16).length, fun i => (R 16).length - i, ⟨0, [(4, 21), (21, 70)], [21], ?_, Nat.zero_le _⟩, ?_⟩
  · repeat' (first | exact trivial | exact .inl (DLe.refl _) | exact .inl (DLe.nil _ _) | (refine .inr ⟨rfl, _, ?_, rfl⟩; rfl) | exact rfl | exact Nat.zero_le _ | constructor)
    exact ho _ _ _
  · intro i hi
    have hb := fold_len now ((R 16).take i) (upd R 16 [])
    have hpos : (R 16)[i]? = none → (R 16).length ≤ i := fun h => List.getElem?_eq_none_iff.1 h
    conv => whnf
    refine Fork.intro (fun h1 => ?_) (fun h1 => ?_)
    · have hlt : (i : Int) < (R 16).length := of_decide_eq_true h1
      conv => whnf
      refine ⟨rfl, ⟨by omega, hlt⟩, ?_⟩
      conv => whnf
      refine ⟨rfl, by show (i : Int).toNat < _; omega, fun a ha => ?_⟩
      have hak : (R 16)[i]? = some a := by simpa using ha
      have hai := hat a (List.mem_of_getElem? hak)
      conv => whnf
      refine CallVC.cov (args1 := [.loc 0 0, .agg (alD a)]) [] [] ⟨[(26, intD i), (25, intD (R 16).length), (24, .grow 4), (0, .loc 0 0)], WH now (((R 16).take i).foldl (laidR now) (upd R 16 [])) (R 16) U M c o2, 53, (upto 4 0, 4)⟩ ?_ ?_ (lay_vc _ now _ _ _ _ _ o2 _ a rfl rfl ho hn hai (fun j => by
        have h2 := hb j
        have h3 : (upd R 16 [] j).length ≤ 100 := upd_nil_len hl j
        rw [List.length_take] at h2
        omega) ?_)
      · repeat' (first | exact trivial | exact .inl (DLe.refl _) | exact .inl (DLe.nil _ _) | (refine .inr ⟨rfl, _, ?_, rfl⟩; rfl) | exact rfl | exact Nat.zero_le _ | constructor)
        exact ho _ _ _
      · repeat' (first | exact trivial | exact .inl (DLe.refl _) | exact .inl (DLe.nil _ _) | (refine .inr ⟨rfl, _, ?_, rfl⟩; rfl) | exact rfl | exact Nat.zero_le _ | constructor)
      · conv => whnf
        rw [wrap_next (show i < (R 16).length by omega) (by omega)]
        refine ⟨i + 1, [], [], ?_, by show i + 1 ≤ _; omega, by show (R 16).length - (i + 1) < (R 16).length - i; omega⟩
        show Cover _ _ _ ⟨_, WH now (((R 16).take (i + 1)).foldl (laidR now) (upd R 16 [])) _ _ _ _ _, _, _⟩
        rw [take_snoc hak, List.foldl_append]
        repeat' (first | exact trivial | exact .inl (DLe.refl _) | exact .inl (DLe.nil _ _) | (refine .inr ⟨rfl, _, ?_, rfl⟩; rfl) | exact rfl | exact Nat.zero_le _ | constructor)
        exact ho _ _ _
    · have hge : ¬ (i : Int) < (R 16).length := of_decide_eq_false h1
      have hil : (R 16).take i = R 16 := List.take_of_length_le (by omega)
      conv => whnf
      rw [hil]
      refine ⟨[], [], .tup [], WH now (pourR now 16 R) (R 16) U M c o2, 53, ?_, hK⟩
      repeat' (first | exact trivial | exact .inl (DLe.refl _) | exact .inl (DLe.nil _ _) | (refine .inr ⟨rfl, _, ?_, rfl⟩; rfl) | exact rfl | exact Nat.zero_le _ | constructor)
      exact ho _ _ _

theorem pour_17 (F : List (Nat × D)) (now : Int) (R : Nat → List Al) (T U : List Al) (M : List ME) (c : Nat) (o2 : LO) (G : List Nat × Nat) {K : D → St → Prop} (hF : F.all (fun p => cutOk 6 4 p.2) = true) (hG : Nat.ble G.2 4 = true) (ho : ∀ r z n, LOLe r z n o2 o2) (hn : 0 ≤ now ∧ now ≤ 1099511627776) (hat : ∀ a, a ∈ R 17 → 0 ≤ a.at_ ∧ a.at_ ≤ 1099511627776) (hl : ∀ j, (R j).length ≤ 100)
    (hK : K (.tup []) ⟨F, WH now (pourR now 17 R) (R 17) U M c o2, 53, G⟩) : CallVC Tryz.prog false 65 [.loc 0 0, intD 1, intD 1] ⟨F, WH now R T U M c o2, 53, G⟩ K := by
  have hlen := hl 17
  refine toIn 4 [] Tryz.func65 rfl (by kernel_rfl) (Nat.le_of_ble_eq_true rfl) (by decide) hG rfl hF ?_
  conv => whnf
  refine ⟨by decide, ?_⟩
  conv => whnf
  refine ⟨by decide, ?_⟩
  conv => whnf
  refine ⟨by decide, ?_⟩
  conv => whnf
  refine ⟨by decide, ?_⟩
  conv => whnf
  refine ⟨Nat, fun i => ⟨[(26, intD i), (25, intD (R 17).length), (24, .grow 4), (0, .loc 0 0)], WH now (((R 17).take i).foldl (laidR now) (upd R 17 [])) (R 17) U M c o2, 53, (upto 4 0, 4)⟩, fun i => i ≤ (R 17).length, fun i => (R 17).length - i, ⟨0, [(4, 22), (22, 70)], [22], ?_, Nat.zero_le _⟩, ?_⟩
  · repeat' (first | exact trivial | exact .inl (DLe.refl _) | exact .inl (DLe.nil _ _) | (refine .inr ⟨rfl, _, ?_, rfl⟩; rfl) | exact rfl | exact Nat.zero_le _ | constructor)
    exact ho _ _ _
  · intro i hi
    have hb := fold_len now ((R 17).take i) (upd R 17 [])
    have hpos : (R 17)[i]? = none → (R 17).length ≤ i := fun h => List.getElem?_eq_none_iff.1 h
    conv => whnf
    refine Fork.intro (fun h1 => ?_) (fun h1 => ?_)
    · have hlt : (i : Int) < (R 17).length := of_decide_eq_true h1
      conv => whnf
      refine ⟨rfl, ⟨by omega, hlt⟩, ?_⟩
      conv => whnf
      refine ⟨rfl, by show (i : Int).toNat < _; omega, fun a ha => ?_⟩
      have hak : (R 17)[i]? = some a := by simpa using ha
      have hai := hat a (List.mem_of_getElem? hak)
      conv => whnf
      refine CallVC.cov (args1 := [.loc 0 0, .agg (alD a)]) [] [] ⟨[(26, intD i), (25, intD (R 17).length), (24, .grow 4), (0, .loc 0 0)], WH now (((R 17).take i).foldl (laidR now) (upd R 17 [])) (R 17) U M c o2, 53, (upto 4 0, 4)⟩ ?_ ?_ (lay_vc _ now _ _ _ _ _ o2 _ a rfl rfl ho hn hai (fun j => by
        have h2 := hb j
        have h3 : (upd R 17 [] j).length ≤ 100 := upd_nil_len hl j
        rw [List.length_take] at h2
        omega) ?_)
      · repeat' (first | exact trivial | exact .inl (DLe.refl _) | exact .inl (DLe.nil _ _) | (refine .inr ⟨rfl, _, ?_, rfl⟩; rfl) | exact rfl | exact Nat.zero_le _ | constructor)
        exact ho _ _ _
      · repeat' (first | exact trivial | exact .inl (DLe.refl _) | exact .inl (DLe.nil _ _) | (refine .inr ⟨rfl, _, ?_, rfl⟩; rfl) | exact rfl | exact Nat.zero_le _ | constructor)
      · conv => whnf
        rw [wrap_next (show i < (R 17).length by omega) (by omega)]
        refine ⟨i + 1, [], [], ?_, by show i + 1 ≤ _; omega, by show (R 17).length - (i + 1) < (R 17).length - i; omega⟩
        show Cover _ _ _ ⟨_, WH now (((R 17).take (i + 1)).foldl (laidR now) (upd R 17 [])) _ _ _ _ _, _, _⟩
        rw [take_snoc hak, List.foldl_append]
        repeat' (first | exact trivial | exact .inl (DLe.refl _) | exact .inl (DLe.nil _ _) | (refine .inr ⟨rfl, _, ?_, rfl⟩; rfl) | exact rfl | exact Nat.zero_le _ | constructor)
        exact ho _ _ _
    · have hge : ¬ (i : Int) < (R 17).length := of_decide_eq_false h1
      have hil : (R 17).take i = R 17 := List.take_of_length_le (by omega)
      conv => whnf
      rw [hil]
      refine ⟨[], [], .tup [], WH now (pourR now 17 R) (R 17) U M c o2, 53, ?_, hK⟩
      repeat' (first | exact trivial | exact .inl (DLe.refl _) | exact .inl (DLe.nil _ _) | (refine .inr ⟨rfl, _, ?_, rfl⟩; rfl) | exact rfl | exact Nat.zero_le _ | constructor)
      exact ho _ _ _

theorem pour_18 (F : List (Nat × D)) (now : Int) (R : Nat → List Al) (T U : List Al) (M : List ME) (c : Nat) (o2 : LO) (G : List Nat × Nat) {K : D → St → Prop} (hF : F.all (fun p => cutOk 6 4 p.2) = true) (hG : Nat.ble G.2 4 = true) (ho : ∀ r z n, LOLe r z n o2 o2) (hn : 0 ≤ now ∧ now ≤ 1099511627776) (hat : ∀ a, a ∈ R 18 → 0 ≤ a.at_ ∧ a.at_ ≤ 1099511627776) (hl : ∀ j, (R j).length ≤ 100)
    (hK : K (.tup []) ⟨F, WH now (pourR now 18 R) (R 18) U M c o2, 53, G⟩) : CallVC Tryz.prog false 65 [.loc 0 0, intD 1, intD 2] ⟨F, WH now R T U M c o2, 53, G⟩ K := by
  have hlen := hl 18
  refine toIn 4 [] Tryz.func65 rfl (by kernel_rfl) (Nat.le_of_ble_eq_true rfl) (by decide) hG rfl hF ?_
  conv => whnf
  refine ⟨by decide, ?_⟩
  conv => whnf
  refine ⟨by decide, ?_⟩
  conv => whnf
  refine ⟨by decide, ?_⟩
  conv => whnf
  refine ⟨by decide, ?_⟩
  conv => whnf
  refine ⟨Nat, fun i => ⟨[(26, intD i), (25, intD (R 18).length), (24, .grow 4), (0, .loc 0 0)], WH now (((R 18).take i).foldl (laidR now) (upd R 18 [])) (R 18) U M c o2, 53, (upto 4 0, 4)⟩, fun i => i ≤ (R 18).length, fun i => (R 18).length - i, ⟨0, [(4, 23), (23, 70)], [23], ?_, Nat.zero_le _⟩, ?_⟩
  · repeat' (first | exact trivial | exact .inl (DLe.refl _) | exact .inl (DLe.nil _ _) | (refine .inr ⟨rfl, _, ?_, rfl⟩; rfl) | exact rfl | exact Nat.zero_le _ | constructor)
    exact ho _ _ _
  · intro i hi
    have hb := fold_len now ((R 18).take i) (upd R 18 [])
    have hpos : (R 18)[i]? = none → (R 18).length ≤ i := fun h => List.getElem?_eq_none_iff.1 h
    conv => whnf
    refine Fork.intro (fun h1 => ?_) (fun h1 => ?_)
    · have hlt : (i : Int) < (R 18).length := of_decide_eq_true h1
      conv => whnf
      refine ⟨rfl, ⟨by omega, hlt⟩, ?_⟩
      conv => whnf
      refine ⟨rfl, by show (i : Int).toNat < _; omega, fun a ha => ?_⟩
      have hak : (R 18)[i]? = some a := by simpa using ha
      have hai := hat a (List.mem_of_getElem? hak)
      conv => whnf
      refine CallVC.cov (args1 := [.loc 0 0, .agg (alD a)]) [] [] ⟨[(26, intD i), (25, intD (R 18).length), (24, .grow 4), (0, .loc 0 0)], WH now (((R 18).take i).foldl (laidR now) (upd R 18 [])) (R 18) U M c o2, 53, (upto 4 0, 4)⟩ ?_ ?_ (lay_vc _ now _ _ _ _ _ o2 _ a rfl rfl ho hn hai (fun j => by
        have h2 := hb j
        have h3 : (upd R 18 [] j).length ≤ 100 := upd_nil_len hl j
        rw [List.length_take] at h2
        omega) ?_)
      · repeat' (first | exact trivial | exact .inl (DLe.refl _) | exact .inl (DLe.nil _ _) | (refine .inr ⟨rfl, _, ?_, rfl⟩; rfl) | exact rfl | exact Nat.zero_le _ | constructor)
        exact ho _ _ _
      · repeat' (first | exact trivial | exact .inl (DLe.refl _) | exact .inl (DLe.nil _ _) | (refine .inr ⟨rfl, _, ?_, rfl⟩; rfl) | exact rfl | exact Nat.zero_le _ | constructor)
      · conv => whnf
        rw [wrap_next (show i < (R 18).length by omega) (by omega)]
        refine ⟨i + 1, [], [], ?_, by show i + 1 ≤ _; omega, by show (R 18).length - (i + 1) < (R 18).length - i; omega⟩
        show Cover _ _ _ ⟨_, WH now (((R 18).take (i + 1)).foldl (laidR now) (upd R 18 [])) _ _ _ _ _, _, _⟩
        rw [take_snoc hak, List.foldl_append]
        repeat' (first | exact trivial | exact .inl (DLe.refl _) | exact .inl (DLe.nil _ _) | (refine .inr ⟨rfl, _, ?_, rfl⟩; rfl) | exact rfl | exact Nat.zero_le _ | constructor)
        exact ho _ _ _
    · have hge : ¬ (i : Int) < (R 18).length := of_decide_eq_false h1
      have hil : (R 18).take i = R 18 := List.take_of_length_le (by omega)
      conv => whnf
      rw [hil]
      refine ⟨[], [], .tup [], WH now (pourR now 18 R) (R 18) U M c o2, 53, ?_, hK⟩
      repeat' (first | exact trivial | exact .inl (DLe.refl _) | exact .inl (DLe.nil _ _) | (refine .inr ⟨rfl, _, ?_, rfl⟩; rfl) | exact rfl | exact Nat.zero_le _ | constructor)
      exact ho _ _ _

theorem pour_19 (F : List (Nat × D)) (now : Int) (R : Nat → List Al) (T U : List Al) (M : List ME) (c : Nat) (o2 : LO) (G : List Nat × Nat) {K : D → St → Prop} (hF : F.all (fun p => cutOk 6 4 p.2) = true) (hG : Nat.ble G.2 4 = true) (ho : ∀ r z n, LOLe r z n o2 o2) (hn : 0 ≤ now ∧ now ≤ 1099511627776) (hat : ∀ a, a ∈ R 19 → 0 ≤ a.at_ ∧ a.at_ ≤ 1099511627776) (hl : ∀ j, (R j).length ≤ 100)
    (hK : K (.tup []) ⟨F, WH now (pourR now 19 R) (R 19) U M c o2, 53, G⟩) : CallVC Tryz.prog false 65 [.loc 0 0, intD 1, intD 3] ⟨F, WH now R T U M c o2, 53, G⟩ K := by
  have hlen := hl 19
  refine toIn 4 [] Tryz.func65 rfl (by kernel_rfl) (Nat.le_of_ble_eq_true rfl) (by decide) hG rfl hF ?_
  conv => whnf
  refine ⟨by decide, ?_⟩
  conv => whnf
  refine ⟨by decide, ?_⟩
  conv => whnf
  refine ⟨by decide, ?_⟩
  conv => whnf
  refine ⟨by decide, ?_⟩
  conv => whnf
  refine ⟨Nat, fun i => ⟨[(26, intD i), (25, intD (R 19).length), (24, .grow 4), (0, .loc 0 0)], WH now (((R 19).take i).foldl (laidR now) (upd R 19 [])) (R 19) U M c o2, 53, (upto 4 0, 4)⟩, fun i => i ≤ (R 19).length, fun i => (R 19).length - i, ⟨0, [(4, 24), (24, 70)], [24], ?_, Nat.zero_le _⟩, ?_⟩
  · repeat' (first | exact trivial | exact .inl (DLe.refl _) | exact .inl (DLe.nil _ _) | (refine .inr ⟨rfl, _, ?_, rfl⟩; rfl) | exact rfl | exact Nat.zero_le _ | constructor)
    exact ho _ _ _
  · intro i hi
    have hb := fold_len now ((R 19).take i) (upd R 19 [])
    have hpos : (R 19)[i]? = none → (R 19).length ≤ i := fun h => List.getElem?_eq_none_iff.1 h
    conv => whnf
    refine Fork.intro (fun h1 => ?_) (fun h1 => ?_)
    · have hlt : (i : Int) < (R 19).length := of_decide_eq_true h1
      conv => whnf
      refine ⟨rfl, ⟨by omega, hlt⟩, ?_⟩
      conv => whnf
      refine ⟨rfl, by show (i : Int).toNat < _; omega, fun a ha => ?_⟩
      have hak : (R 19)[i]? = some a := by simpa using ha
      have hai := hat a (List.mem_of_getElem? hak)
      conv => whnf
      refine CallVC.cov (args1 := [.loc 0 0, .agg (alD a)]) [] [] ⟨[(26, intD i), (25, intD (R 19).length), (24, .grow 4), (0, .loc 0 0)], WH now (((R 19).take i).foldl (laidR now) (upd R 19 [])) (R 19) U M c o2, 53, (upto 4 0, 4)⟩ ?_ ?_ (lay_vc _ now _ _ _ _ _ o2 _ a rfl rfl ho hn hai (fun j => by
        have h2 := hb j
        have h3 : (upd R 19 [] j).length ≤ 100 := upd_nil_len hl j
        rw [List.length_take] at h2
        omega) ?_)
      · repeat' (first | exact trivial | exact .inl (DLe.refl _) | exact .inl (DLe.nil _ _) | (refine .inr ⟨rfl, _, ?_, rfl⟩; rfl) | exact rfl | exact Nat.zero_le _ | constructor)
        exact ho _ _ _
      · repeat' (first | exact trivial | exact .inl (DLe.refl _) | exact .inl (DLe.nil _ _) | (refine .inr ⟨rfl, _, ?_, rfl⟩; rfl) | exact rfl | exact Nat.zero_le _ | constructor)
      · conv => whnf
        rw [wrap_next (show i < (R 19).length by omega) (by omega)]
        refine ⟨i + 1, [], [], ?_, by show i + 1 ≤ _; omega, by show (R 19).length - (i + 1) < (R 19).length - i; omega⟩
        show Cover _ _ _ ⟨_, WH now (((R 19).take (i + 1)).foldl (laidR now) (upd R 19 [])) _ _ _ _ _, _, _⟩
        rw [take_snoc hak, List.foldl_append]
        repeat' (first | exact trivial | exact .inl (DLe.refl _) | exact .inl (DLe.nil _ _) | (refine .inr ⟨rfl, _, ?_, rfl⟩; rfl) | exact rfl | exact Nat.zero_le _ | constructor)
        exact ho _ _ _
    · have hge : ¬ (i : Int) < (R 19).length := of_decide_eq_false h1
      have hil : (R 19).take i = R 19 := List.take_of_length_le (by omega)
      conv => whnf
      rw [hil]
      refine ⟨[], [], .tup [], WH now (pourR now 19 R) (R 19) U M c o2, 53, ?_, hK⟩
      repeat' (first | exact trivial | exact .inl (DLe.refl _) | exact .inl (DLe.nil _ _) | (refine .inr ⟨rfl, _, ?_, rfl⟩; rfl) | exact rfl | exact Nat.zero_le _ | constructor)
      exact ho _ _ _

theorem pour_20 (F : List (Nat × D)) (now : Int) (R : Nat → List Al) (T U : List Al) (M : List ME) (c : Nat) (o2 : LO) (G : List Nat × Nat) {K : D → St → Prop} (hF : F.all (fun p => cutOk 6 4 p.2) = true) (hG : Nat.ble G.2 4 = true) (ho : ∀ r z n, LOLe r z n o2 o2) (hn : 0 ≤ now ∧ now ≤ 1099511627776) (hat : ∀ a, a ∈ R 20 → 0 ≤ a.at_ ∧ a.at_ ≤ 1099511627776) (hl : ∀ j, (R j).length ≤ 100)
    (hK : K (.tup []) ⟨F, WH now (pourR now 20 R) (R 20) U M c o2, 53, G⟩) : CallVC Tryz.prog false 65 [.loc 0 0, intD 1, intD 4] ⟨F, WH now R T U M c o2, 53, G⟩ K := by
  have hlen := hl 20
  refine toIn 4 [] Tryz.func65 rfl (by kernel_rfl) (Nat.le_of_ble_eq_true rfl) (by decide) hG rfl hF ?_
  conv => whnf
  refine ⟨by decide, ?_⟩
  conv => whnf
  refine ⟨by decide, ?_⟩
  conv => whnf
  refine ⟨by decide, ?_⟩
  conv => whnf
  refine ⟨by decide, ?_⟩
  conv => whnf
  refine ⟨Nat, fun i => ⟨[(26, intD i), (25, intD (R 20).length), (24, .grow 4), (0, .loc 0 0)], WH now (((R 20).take i).foldl (laidR now) (upd R 20 [])) (R 20) U M c o2, 53, (upto 4 0, 4)⟩, fun i => i ≤ (R 20).length, fun i => (R 20).length - i, ⟨0, [(4, 25), (25, 70)], [25], ?_, Nat.zero_le _⟩, ?_⟩
  · repeat' (first | exact trivial | exact .inl (DLe.refl _) | exact .inl (DLe.nil _ _) | (refine .inr ⟨rfl, _, ?_, rfl⟩; rfl) | exact rfl | exact Nat.zero_le _ | constructor)
    exact ho _ _ _
  · intro i hi
    have hb := fold_len now ((R 20).take i) (upd R 20 [])
    have hpos : (R 20)[i]? = none → (R 20).length ≤ i := fun h => List.getElem?_eq_none_iff.1 h
    conv => whnf
    refine Fork.intro (fun h1 => ?_) (fun h1 => ?_)
    · have hlt : (i : Int) < (R 20).length := of_decide_eq_true h1
      conv => whnf
      refine ⟨rfl, ⟨by omega, hlt⟩, ?_⟩
      conv => whnf
      refine ⟨rfl, by show (i : Int).toNat < _; omega, fun a ha => ?_⟩
      have hak : (R 20)[i]? = some a := by simpa using ha
      have hai := hat a (List.mem_of_getElem? hak)
      conv => whnf
      refine CallVC.cov (args1 := [.loc 0 0, .agg (alD a)]) [] [] ⟨[(26, intD i), (25, intD (R 20).length), (24, .grow 4), (0, .loc 0 0)], WH now (((R 20).take i).foldl (laidR now) (upd R 20 [])) (R 20) U M c o2, 53, (upto 4 0, 4)⟩ ?_ ?_ (lay_vc _ now _ _ _ _ _ o2 _ a rfl rfl ho hn hai (fun j => by
        have h2 := hb j
        have h3 : (upd R 20 [] j).length ≤ 100 := upd_nil_len hl j
        rw [List.length_take] at h2
        omega) ?_)
      · repeat' (first | exact trivial | exact .inl (DLe.refl _) | exact .inl (DLe.nil _ _) | (refine .inr ⟨rfl, _, ?_, rfl⟩; rfl) | exact rfl | exact Nat.zero_le _ | constructor)
        exact ho _ _ _
      · repeat' (first | exact trivial | exact .inl (DLe.refl _) | exact .inl (DLe.nil _ _) | (refine .inr ⟨rfl, _, ?_, rfl⟩; rfl) | exact rfl | exact Nat.zero_le _ | constructor)
      · conv => whnf
        rw [wrap_next (show i < (R 20).length by omega) (by omega)]
        refine ⟨i + 1, [], [], ?_, by show i + 1 ≤ _; omega, by show (R 20).length - (i + 1) < (R 20).length - i; omega⟩
        show Cover _ _ _ ⟨_, WH now (((R 20).take (i + 1)).foldl (laidR now) (upd R 20 [])) _ _ _ _ _, _, _⟩
        rw [take_snoc hak, List.foldl_append]
        repeat' (first | exact trivial | exact .inl (DLe.refl _) | exact .inl (DLe.nil _ _) | (refine .inr ⟨rfl, _, ?_, rfl⟩; rfl) | exact rfl | exact Nat.zero_le _ | constructor)
        exact ho _ _ _
    · have hge : ¬ (i : Int) < (R 20).length := of_decide_eq_false h1
      have hil : (R 20).take i = R 20 := List.take_of_length_le (by omega)
      conv => whnf
      rw [hil]
      refine ⟨[], [], .tup [], WH now (pourR now 20 R) (R 20) U M c o2, 53, ?_, hK⟩
      repeat' (first | exact trivial | exact .inl (DLe.refl _) | exact .inl (DLe.nil _ _) | (refine .inr ⟨rfl, _, ?_, rfl⟩; rfl) | exact rfl | exact Nat.zero_le _ | constructor)
      exact ho _ _ _

theorem pour_21 (F : List (Nat × D)) (now : Int) (R : Nat → List Al) (T U : List Al) (M : List ME) (c : Nat) (o2 : LO) (G : List Nat × Nat) {K : D → St → Prop} (hF : F.all (fun p => cutOk 6 4 p.2) = true) (hG : Nat.ble G.2 4 = true) (ho : ∀ r z n, LOLe r z n o2 o2) (hn : 0 ≤ now ∧ now ≤ 1099511627776) (hat : ∀ a, a ∈ R 21 → 0 ≤ a.at_ ∧ a.at_ ≤ 1099511627776) (hl : ∀ j, (R j).length ≤ 100)
    (hK : K (.tup []) ⟨F, WH now (pourR now 21 R) (R 21) U M c o2, 53, G⟩) : CallVC Tryz.prog false 65 [.loc 0 0, intD 1, intD 5] ⟨F, WH now R T U M c o2, 53, G⟩ K := by
  have hlen := hl 21
  refine toIn 4 [] Tryz.func65 rfl (by kernel_rfl) (Nat.le_of_ble_eq_true rfl) (by decide) hG rfl hF ?_
  conv => whnf
  refine ⟨by decide, ?_⟩
  conv => whnf
  refine ⟨by decide, ?_⟩
  conv => whnf
  refine ⟨by decide, ?_⟩
  conv => whnf
  refine ⟨by decide, ?_⟩
  conv => whnf
  refine ⟨Nat, fun i => ⟨[(26, intD i), (25, intD (R 21).length), (24, .grow 4), (0, .loc 0 0)], WH now (((R 21).take i).foldl (laidR now) (upd R 21 [])) (R 21) U M c o2, 53, (upto 4 0, 4)⟩, fun i => i ≤ (R 21).length, fun i => (R 21).length - i, ⟨0, [(4, 26), (26, 70)], [26], ?_, Nat.zero_le _⟩, ?_⟩
  · repeat' (first | exact trivial | exact .inl (DLe.refl _) | exact .inl (DLe.nil _ _) | (refine .inr ⟨rfl, _, ?_, rfl⟩; rfl) | exact rfl | exact Nat.zero_le _ | constructor)
    exact ho _ _ _
  · intro i hi
    have hb := fold_len now ((R 21).take i) (upd R 21 [])
    have hpos : (R 21)[i]? = none → (R 21).length ≤ i := fun h => List.getElem?_eq_none_iff.1 h
    conv => whnf
    refine Fork.intro (fun h1 => ?_) (fun h1 => ?_)
    · have hlt : (i : Int) < (R 21).length := of_decide_eq_true h1
      conv => whnf
      refine ⟨rfl, ⟨by omega, hlt⟩, ?_⟩
      conv => whnf
      refine ⟨rfl, by show (i : Int).toNat < _; omega, fun a ha => ?_⟩
      have hak : (R 21)[i]? = some a := by simpa using ha
      have hai := hat a (List.mem_of_getElem? hak)
      conv => whnf
      refine CallVC.cov (args1 := [.loc 0 0, .agg (alD a)]) [] [] ⟨[(26, intD i), (25, intD (R 21).length), (24, .grow 4), (0, .loc 0 0)], WH now (((R 21).take i).foldl (laidR now) (upd R 21 [])) (R 21) U M c o2, 53, (upto 4 0, 4)⟩ ?_ ?_ (lay_vc _ now _ _ _ _ _ o2 _ a rfl rfl ho hn hai (fun j => by
        have h2 := hb j
        have h3 : (upd R 21 [] j).length ≤ 100 := upd_nil_len hl j
        rw [List.length_take] at h2
        omega) ?_)
      · repeat' (first | exact trivial | exact .inl (DLe.refl _) | exact .inl (DLe.nil _ _) | (refine .inr ⟨rfl, _, ?_, rfl⟩; rfl) | exact rfl | exact Nat.zero_le _ | constructor)
        exact ho _ _ _
      · repeat' (first | exact trivial | exact .inl (DLe.refl _) | exact .inl (DLe.nil _ _) | (refine .inr ⟨rfl, _, ?_, rfl⟩; rfl) | exact rfl | exact Nat.zero_le _ | constructor)
      · conv => whnf
        rw [wrap_next (show i < (R 21).length by omega) (by omega)]
        refine ⟨i + 1, [], [], ?_, by show i + 1 ≤ _; omega, by show (R 21).length - (i + 1) < (R 21).length - i; omega⟩
        show Cover _ _ _ ⟨_, WH now (((R 21).take (i + 1)).foldl (laidR now) (upd R 21 [])) _ _ _ _ _, _, _⟩
        rw [take_snoc hak, List.foldl_append]
        repeat' (first | exact trivial | exact .inl (DLe.refl _) | exact .inl (DLe.nil _ _) | (refine .inr ⟨rfl, _, ?_, rfl⟩; rfl) | exact rfl | exact Nat.zero_le _ | constructor)
        exact ho _ _ _
    · have hge : ¬ (i : Int) < (R 21).length := of_decide_eq_false h1
      have hil : (R 21).take i = R 21 := List.take_of_length_le (by omega)
      conv => whnf
      rw [hil]
      refine ⟨[], [], .tup [], WH now (pourR now 21 R) (R 21) U M c o2, 53, ?_, hK⟩
      repeat' (first | exact trivial | exact .inl (DLe.refl _) | exact .inl (DLe.nil _ _) | (refine .inr ⟨rfl, _, ?_, rfl⟩; rfl) | exact rfl | exact Nat.zero_le _ | constructor)
      exact ho _ _ _

theorem pour_22 (F : List (Nat × D)) (now : Int) (R : Nat → List Al) (T U : List Al) (M : List ME) (c : Nat) (o2 : LO) (G : List Nat × Nat) {K : D → St → Prop} (hF : F.all (fun p => cutOk 6 4 p.2) = true) (hG : Nat.ble G.2 4 = true) (ho : ∀ r z n, LOLe r z n o2 o2) (hn : 0 ≤ now ∧ now ≤ 1099511627776) (hat : ∀ a, a ∈ R 22 → 0 ≤ a.at_ ∧ a.at_ ≤ 1099511627776) (hl : ∀ j, (R j).length ≤ 100)
    (hK : K (.tup []) ⟨F, WH now (pourR now 22 R) (R 22) U M c o2, 53, G⟩) : CallVC Tryz.prog false 65 [.loc 0 0, intD 1, intD 6] ⟨F, WH now R T U M c o2, 53, G⟩ K := by
  have hlen := hl 22
  refine toIn 4 [] Tryz.func65 rfl (by kernel_rfl) (Nat.le_of_ble_eq_true rfl) (by decide) hG rfl hF ?_
  conv => whnf
  refine ⟨by decide, ?_⟩
  conv => whnf
  refine ⟨by decide, ?_⟩
  conv => whnf
  refine ⟨by decide, ?_⟩
  conv => whnf
  refine ⟨by decide, ?_⟩
  conv => whnf
  refine ⟨Nat, fun i => ⟨[(26, intD i), (25, intD (R 22).length), (24, .grow 4), (0, .loc 0 0)], WH now (((R 22).take i).foldl (laidR now) (upd R 22 [])) (R 22) U M c o2, 53, (upto 4 0, 4)⟩, fun i => i ≤ (R 22).length, fun i => (R 22).length - i, ⟨0, [(4, 27), (27, 70)], [27], ?_, Nat.zero_le _⟩, ?_⟩
  · repeat' (first | exact trivial | exact .inl (DLe.refl _) | exact .inl (DLe.nil _ _) | (refine .inr ⟨rfl, _, ?_, rfl⟩; rfl) | exact rfl | exact Nat.zero_le _ | constructor)
    exact ho _ _ _
  · intro i hi
    have hb := fold_len now ((R 22).take i) (upd R 22 [])
    have hpos : (R 22)[i]? = none → (R 22).length ≤ i := fun h => List.getElem?_eq_none_iff.1 h
    conv => whnf
    refine Fork.intro (fun h1 => ?_) (fun h1 => ?_)
    · have hlt : (i : Int) < (R 22).length := of_decide_eq_true h1
      conv => whnf
      refine ⟨rfl, ⟨by omega, hlt⟩, ?_⟩
      conv => whnf
      refine ⟨rfl, by show (i : Int).toNat < _; omega, fun a ha => ?_⟩
      have hak : (R 22)[i]? = some a := by simpa using ha
      have hai := hat a (List.mem_of_getElem? hak)
      conv => whnf
      refine CallVC.cov (args1 := [.loc 0 0, .agg (alD a)]) [] [] ⟨[(26, intD i), (25, intD (R 22).length), (24, .grow 4), (0, .loc 0 0)], WH now (((R 22).take i).foldl (laidR now) (upd R 22 [])) (R 22) U M c o2, 53, (upto 4 0, 4)⟩ ?_ ?_ (lay_vc _ now _ _ _ _ _ o2 _ a rfl rfl ho hn hai (fun j => by
        have h2 := hb j
        have h3 : (upd R 22 [] j).length ≤ 100 := upd_nil_len hl j
        rw [List.length_take] at h2
        omega) ?_)
      · repeat' (first | exact trivial | exact .inl (DLe.refl _) | exact .inl (DLe.nil _ _) | (refine .inr ⟨rfl, _, ?_, rfl⟩; rfl) | exact rfl | exact Nat.zero_le _ | constructor)
        exact ho _ _ _
      · repeat' (first | exact trivial | exact .inl (DLe.refl _) | exact .inl (DLe.nil _ _) | (refine .inr ⟨rfl, _, ?_, rfl⟩; rfl) | exact rfl | exact Nat.zero_le _ | constructor)
      · conv => whnf
        rw [wrap_next (show i < (R 22).length by omega) (by omega)]
        refine ⟨i + 1, [], [], ?_, by show i + 1 ≤ _; omega, by show (R 22).length - (i + 1) < (R 22).length - i; omega⟩
        show Cover _ _ _ ⟨_, WH now (((R 22).take (i + 1)).foldl (laidR now) (upd R 22 [])) _ _ _ _ _, _, _⟩
        rw [take_snoc hak, List.foldl_append]
        repeat' (first | exact trivial | exact .inl (DLe.refl _) | exact .inl (DLe.nil _ _) | (refine .inr ⟨rfl, _, ?_, rfl⟩; rfl) | exact rfl | exact Nat.zero_le _ | constructor)
        exact ho _ _ _
    · have hge : ¬ (i : Int) < (R 22).length := of_decide_eq_false h1
      have hil : (R 22).take i = R 22 := List.take_of_length_le (by omega)
      conv => whnf
      rw [hil]
      refine ⟨[], [], .tup [], WH now (pourR now 22 R) (R 22) U M c o2, 53, ?_, hK⟩
      repeat' (first | exact trivial | exact .inl (DLe.refl _) | exact .inl (DLe.nil _ _) | (refine .inr ⟨rfl, _, ?_, rfl⟩; rfl) | exact rfl | exact Nat.zero_le _ | constructor)
      exact ho _ _ _

theorem pour_23 (F : List (Nat × D)) (now : Int) (R : Nat → List Al) (T U : List Al) (M : List ME) (c : Nat) (o2 : LO) (G : List Nat × Nat) {K : D → St → Prop} (hF : F.all (fun p => cutOk 6 4 p.2) = true) (hG : Nat.ble G.2 4 = true) (ho : ∀ r z n, LOLe r z n o2 o2) (hn : 0 ≤ now ∧ now ≤ 1099511627776) (hat : ∀ a, a ∈ R 23 → 0 ≤ a.at_ ∧ a.at_ ≤ 1099511627776) (hl : ∀ j, (R j).length ≤ 100)
    (hK : K (.tup []) ⟨F, WH now (pourR now 23 R) (R 23) U M c o2, 53, G⟩) : CallVC Tryz.prog false 65 [.loc 0 0, intD 1, intD 7] ⟨F, WH now R T U M c o2, 53, G⟩ K := by
  have hlen := hl 23
  refine toIn 4 [] Tryz.func65 rfl (by kernel_rfl) (Nat.le_of_ble_eq_true rfl) (by decide) hG rfl hF ?_
  conv => whnf
  refine ⟨by decide, ?_⟩
  conv => whnf
  refine ⟨by decide, ?_⟩
  conv => whnf
  refine ⟨by decide, ?_⟩
  conv => whnf
  refine ⟨by decide, ?_⟩
  conv => whnf
  refine ⟨Nat, fun i => ⟨[(26, intD i), (25, intD (R 23).length), (24, .grow 4), (0, .loc 0 0)], WH now (((R 23).take i).foldl (laidR now) (upd R 23 [])) (R 23) U M c o2, 53, (upto 4 0, 4)⟩, fun i => i ≤ (R 23).length, fun i => (R 23).length - i, ⟨0, [(4, 28), (28, 70)], [28], ?_, Nat.zero_le _⟩, ?_⟩
  · repeat' (first | exact trivial | exact .inl (DLe.refl _) | exact .inl (DLe.nil _ _) | (refine .inr ⟨rfl, _, ?_, rfl⟩; rfl) | exact rfl | exact Nat.zero_le _ | constructor)
    exact ho _ _ _
  · intro i hi
    have hb := fold_len now ((R 23).take i) (upd R 23 [])
    have hpos : (R 23)[i]? = none → (R 23).length ≤ i := fun h => List.getElem?_eq_none_iff.1 h
    conv => whnf
    refine Fork.intro (fun h1 => ?_) (fun h1 => ?_)
    · have hlt : (i : Int) < (R 23).length := of_decide_eq_true h1
      conv => whnf
      refine ⟨rfl, ⟨by omega, hlt⟩, ?_⟩
      conv => whnf
      refine ⟨rfl, by show (i : Int).toNat < _; omega, fun a ha => ?_⟩
      have hak : (R 23)[i]? = some a := by simpa using ha
      have hai := hat a (List.mem_of_getElem? hak)
      conv => whnf
      refine CallVC.cov (args1 := [.loc 0 0, .agg (alD a)]) [] [] ⟨[(26, intD i), (25, intD (R 23).length), (24, .grow 4), (0, .loc 0 0)], WH now (((R 23).take i).foldl (laidR now) (upd R 23 [])) (R 23) U M c o2, 53, (upto 4 0, 4)⟩ ?_ ?_ (lay_vc _ now _ _ _ _ _ o2 _ a rfl rfl ho hn hai (fun j => by
        have h2 := hb j
        have h3 : (upd R 23 [] j).length ≤ 100 := upd_nil_len hl j
        rw [List.length_take] at h2
        omega) ?_)
      · repeat' (first | exact trivial | exact .inl (DLe.refl _) | exact .inl (DLe.nil _ _) | (refine .inr ⟨rfl, _, ?_, rfl⟩; rfl) | exact rfl | exact Nat.zero_le _ | constructor)
        exact ho _ _ _
      · repeat' (first | exact trivial | exact .inl (DLe.refl _) | exact .inl (DLe.nil _ _) | (refine .inr ⟨rfl, _, ?_, rfl⟩; rfl) | exact rfl | exact Nat.zero_le _ | constructor)
      · conv => whnf
        rw [wrap_next (show i < (R 23).length by omega) (by omega)]
        refine ⟨i + 1, [], [], ?_, by show i + 1 ≤ _; omega, by show (R 23).length - (i + 1) < (R 23).length - i; omega⟩
        show Cover _ _ _ ⟨_, WH now (((R 23).take (i + 1)).foldl (laidR now) (upd R 23 [])) _ _ _ _ _, _, _⟩
        rw [take_snoc hak, List.foldl_append]
        repeat' (first | exact trivial | exact .inl (DLe.refl _) | exact .inl (DLe.nil _ _) | (refine .inr ⟨rfl, _, ?_, rfl⟩; rfl) | exact rfl | exact Nat.zero_le _ | constructor)
        exact ho _ _ _
    · have hge : ¬ (i : Int) < (R 23).length := of_decide_eq_false h1
      have hil : (R 23).take i = R 23 := List.take_of_length_le (by omega)
      conv => whnf
      rw [hil]
      refine ⟨[], [], .tup [], WH now (pourR now 23 R) (R 23) U M c o2, 53, ?_, hK⟩
      repeat' (first | exact trivial | exact .inl (DLe.refl _) | exact .inl (DLe.nil _ _) | (refine .inr ⟨rfl, _, ?_, rfl⟩; rfl) | exact rfl | exact Nat.zero_le _ | constructor)
      exact ho _ _ _
end Go.Proofs.YtcbpdjikdohegaaGreat.V
namespace Go.Proofs.YtcbpdjikdohegaaGreat.V
open Go.RowKit
attribute [local irreducible] Fn FnN OpVC Ob RowFn

theorem pour_24 (F : List (Nat × D)) (now : Int) (R : Nat → List Al) (T U : List Al) (M : List ME) (c : Nat) (o2 : LO) (G : List Nat × Nat) {K : D → St → Prop} (hF : F.all (fun p => cutOk 6 4 p.2) = true) (hG : Nat.ble G.2 4 = true) (ho : ∀ r z n, LOLe r z n o2 o2) (hn : 0 ≤ now ∧ now ≤ 1099511627776) (hat : ∀ a, a ∈ R 24 → 0 ≤ a.at_ ∧ a.at_ ≤ 1099511627776) (hl : ∀ j, (R j).length ≤ 100)
    (hK : K (.tup []) ⟨F, WH now (pourR now 24 R) (R 24) U M c o2, 53, G⟩) : CallVC Tryz.prog false 65 [.loc 0 0, intD 1, intD 8] ⟨F, WH now R T U M c o2, 53, G⟩ K := by
  have hlen := hl 24
  refine toIn 4 [] Tryz.func65 rfl (by kernel_rfl) (Nat.le_of_ble_eq_true rfl) (by decide) hG rfl hF ?_
  conv => whnf
  refine ⟨by decide, ?_⟩
  conv => whnf
  refine ⟨by decide, ?_⟩
  conv => whnf
  refine ⟨by decide, ?_⟩
  conv => whnf
  refine ⟨by decide, ?_⟩
  conv => whnf
  refine ⟨Nat, fun i => ⟨[(26, intD i), (25, intD (R 24).length), (24, .grow 4), (0, .loc 0 0)], WH now (((R 24).take i).foldl (laidR now) (upd R 24 [])) (R 24) U M c o2, 53, (upto 4 0, 4)⟩, fun i => i ≤ (R 24).length, fun i => (R 24).length - i, ⟨0, [(4, 29), (29, 70)], [29], ?_, Nat.zero_le _⟩, ?_⟩
  · repeat' (first | exact trivial | exact .inl (DLe.refl _) | exact .inl (DLe.nil _ _) | (refine .inr ⟨rfl, _, ?_, rfl⟩; rfl) | exact rfl | exact Nat.zero_le _ | constructor)
    exact ho _ _ _
  · intro i hi
    have hb := fold_len now ((R 24).take i) (upd R 24 [])
    have hpos : (R 24)[i]? = none → (R 24).length ≤ i := fun h => List.getElem?_eq_none_iff.1 h
    conv => whnf
    refine Fork.intro (fun h1 => ?_) (fun h1 => ?_)
    · have hlt : (i : Int) < (R 24).length := of_decide_eq_true h1
      conv => whnf
      refine ⟨rfl, ⟨by omega, hlt⟩, ?_⟩
      conv => whnf
      refine ⟨rfl, by show (i : Int).toNat < _; omega, fun a ha => ?_⟩
      have hak : (R 24)[i]? = some a := by simpa using ha
      have hai := hat a (List.mem_of_getElem? hak)
      conv => whnf
      refine CallVC.cov (args1 := [.loc 0 0, .agg (alD a)]) [] [] ⟨[(26, intD i), (25, intD (R 24).length), (24, .grow 4), (0, .loc 0 0)], WH now (((R 24).take i).foldl (laidR now) (upd R 24 [])) (R 24) U M c o2, 53, (upto 4 0, 4)⟩ ?_ ?_ (lay_vc _ now _ _ _ _ _ o2 _ a rfl rfl ho hn hai (fun j => by
        have h2 := hb j
        have h3 : (upd R 24 [] j).length ≤ 100 := upd_nil_len hl j
        rw [List.length_take] at h2
        omega) ?_)
      · repeat' (first | exact trivial | exact .inl (DLe.refl _) | exact .inl (DLe.nil _ _) | (refine .inr ⟨rfl, _, ?_, rfl⟩; rfl) | exact rfl | exact Nat.zero_le _ | constructor)
        exact ho _ _ _
      · repeat' (first | exact trivial | exact .inl (DLe.refl _) | exact .inl (DLe.nil _ _) | (refine .inr ⟨rfl, _, ?_, rfl⟩; rfl) | exact rfl | exact Nat.zero_le _ | constructor)
      · conv => whnf
        rw [wrap_next (show i < (R 24).length by omega) (by omega)]
        refine ⟨i + 1, [], [], ?_, by show i + 1 ≤ _; omega, by show (R 24).length - (i + 1) < (R 24).length - i; omega⟩
        show Cover _ _ _ ⟨_, WH now (((R 24).take (i + 1)).foldl (laidR now) (upd R 24 [])) _ _ _ _ _, _, _⟩
        rw [take_snoc hak, List.foldl_append]
        repeat' (first | exact trivial | exact .inl (DLe.refl _) | exact .inl (DLe.nil _ _) | (refine .inr ⟨rfl, _, ?_, rfl⟩; rfl) | exact rfl | exact Nat.zero_le _ | constructor)
        exact ho _ _ _
    · have hge : ¬ (i : Int) < (R 24).length := of_decide_eq_false h1
      have hil : (R 24).take i = R 24 := List.take_of_length_le (by omega)
      conv => whnf
      rw [hil]
      refine ⟨[], [], .tup [], WH now (pourR now 24 R) (R 24) U M c o2, 53, ?_, hK⟩
      repeat' (first | exact trivial | exact .inl (DLe.refl _) | exact .inl (DLe.nil _ _) | (refine .inr ⟨rfl, _, ?_, rfl⟩; rfl) | exact rfl | exact Nat.zero_le _ | constructor)
      exact ho _ _ _

theorem pour_25 (F : List (Nat × D)) (now : Int) (R : Nat → List Al) (T U : List Al) (M : List ME) (c : Nat) (o2 : LO) (G : List Nat × Nat) {K : D → St → Prop} (hF : F.all (fun p => cutOk 6 4 p.2) = true) (hG : Nat.ble G.2 4 = true) (ho : ∀ r z n, LOLe r z n o2 o2) (hn : 0 ≤ now ∧ now ≤ 1099511627776) (hat : ∀ a, a ∈ R 25 → 0 ≤ a.at_ ∧ a.at_ ≤ 1099511627776) (hl : ∀ j, (R j).length ≤ 100)
    (hK : K (.tup []) ⟨F, WH now (pourR now 25 R) (R 25) U M c o2, 53, G⟩) : CallVC Tryz.prog false 65 [.loc 0 0, intD 1, intD 9] ⟨F, WH now R T U M c o2, 53, G⟩ K := by
  have hlen := hl 25
  refine toIn 4 [] Tryz.func65 rfl (by kernel_rfl) (Nat.le_of_ble_eq_true rfl) (by decide) hG rfl hF ?_
  conv => whnf
  refine ⟨by decide, ?_⟩
  conv => whnf
  refine ⟨by decide, ?_⟩
  conv => whnf
  refine ⟨by decide, ?_⟩
  conv => whnf
  refine ⟨by decide, ?_⟩
  conv => whnf
  refine ⟨Nat, fun i => ⟨[(26, intD i), (25, intD (R 25).length), (24, .grow 4), (0, .loc 0 0)], WH now (((R 25).take i).foldl (laidR now) (upd R 25 [])) (R 25) U M c o2, 53, (upto 4 0, 4)⟩, fun i => i ≤ (R 25).length, fun i => (R 25).length - i, ⟨0, [(4, 30), (30, 70)], [30], ?_, Nat.zero_le _⟩, ?_⟩
  · repeat' (first | exact trivial | exact .inl (DLe.refl _) | exact .inl (DLe.nil _ _) | (refine .inr ⟨rfl, _, ?_, rfl⟩; rfl) | exact rfl | exact Nat.zero_le _ | constructor)
    exact ho _ _ _
  · intro i hi
    have hb := fold_len now ((R 25).take i) (upd R 25 [])
    have hpos : (R 25)[i]? = none → (R 25).length ≤ i := fun h => List.getElem?_eq_none_iff.1 h
    conv => whnf
    refine Fork.intro (fun h1 => ?_) (fun h1 => ?_)
    · have hlt : (i : Int) < (R 25).length := of_decide_eq_true h1
      conv => whnf
      refine ⟨rfl, ⟨by omega, hlt⟩, ?_⟩
      conv => whnf
      refine ⟨rfl, by show (i : Int).toNat < _; omega, fun a ha => ?_⟩
      have hak : (R 25)[i]? = some a := by simpa using ha
      have hai := hat a (List.mem_of_getElem? hak)
      conv => whnf
      refine CallVC.cov (args1 := [.loc 0 0, .agg (alD a)]) [] [] ⟨[(26, intD i), (25, intD (R 25).length), (24, .grow 4), (0, .loc 0 0)], WH now (((R 25).take i).foldl (laidR now) (upd R 25 [])) (R 25) U M c o2, 53, (upto 4 0, 4)⟩ ?_ ?_ (lay_vc _ now _ _ _ _ _ o2 _ a rfl rfl ho hn hai (fun j => by
        have h2 := hb j
        have h3 : (upd R 25 [] j).length ≤ 100 := upd_nil_len hl j
        rw [List.length_take] at h2
        omega) ?_)
      · repeat' (first | exact trivial | exact .inl (DLe.refl _) | exact .inl (DLe.nil _ _) | (refine .inr ⟨rfl, _, ?_, rfl⟩; rfl) | exact rfl | exact Nat.zero_le _ | constructor)
        exact ho _ _ _
      · repeat' (first | exact trivial | exact .inl (DLe.refl _) | exact .inl (DLe.nil _ _) | (refine .inr ⟨rfl, _, ?_, rfl⟩; rfl) | exact rfl | exact Nat.zero_le _ | constructor)
      · conv => whnf
        rw [wrap_next (show i < (R 25).length by omega) (by omega)]
        refine ⟨i + 1, [], [], ?_, by show i + 1 ≤ _; omega, by show (R 25).length - (i + 1) < (R 25).length - i; omega⟩
        show Cover _ _ _ ⟨_, WH now (((R 25).take (i + 1)).foldl (laidR now) (upd R 25 [])) _ _ _ _ _, _, _⟩
        rw [take_snoc hak, List.foldl_append]
        repeat' (first | exact trivial | exact .inl (DLe.refl _) | exact .inl (DLe.nil _ _) | (refine .inr ⟨rfl, _, ?_, rfl⟩; rfl) | exact rfl | exact Nat.zero_le _ | constructor)
        exact ho _ _ _
    · have hge : ¬ (i : Int) < (R 25).length := of_decide_eq_false h1
      have hil : (R 25).take i = R 25 := List.take_of_length_le (by omega)
      conv => whnf
      rw [hil]
      refine ⟨[], [], .tup [], WH now (pourR now 25 R) (R 25) U M c o2, 53, ?_, hK⟩
      repeat' (first | exact trivial | exact .inl (DLe.refl _) | exact .inl (DLe.nil _ _) | (refine .inr ⟨rfl, _, ?_, rfl⟩; rfl) | exact rfl | exact Nat.zero_le _ | constructor)
      exact ho _ _ _

theorem pour_26 (F : List (Nat × D)) (now : Int) (R : Nat → List Al) (T U : List Al) (M : List ME) (c : Nat) (o2 : LO) (G : List Nat × Nat) {K : D → St → Prop} (hF : F.all (fun p => cutOk 6 4 p.2) = true) (hG : Nat.ble G.2 4 = true) (ho : ∀ r z n, LOLe r z n o2 o2) (hn : 0 ≤ now ∧ now ≤ 1099511627776) (hat : ∀ a, a ∈ R 26 → 0 ≤ a.at_ ∧ a.at_ ≤ 1099511627776) (hl : ∀ j, (R j).length ≤ 100)
    (hK : K (.tup []) ⟨F, WH now (pourR now 26 R) (R 26) U M c o2, 53, G⟩) : CallVC Tryz.prog false 65 [.loc 0 0, intD 1, intD 10] ⟨F, WH now R T U M c o2, 53, G⟩ K := by
  have hlen := hl 26
  refine toIn 4 [] Tryz.func65 rfl (by kernel_rfl) (Nat.le_of_ble_eq_true rfl) (by decide) hG rfl hF ?_
  conv => whnf
  refine ⟨by decide, ?_⟩
  conv => whnf
  refine ⟨by decide, ?_⟩
  conv => whnf
  refine ⟨by decide, ?_⟩
  conv => whnf
  refine ⟨by decide, ?_⟩
  conv => whnf
  refine ⟨Nat, fun i => ⟨[(26, intD i), (25, intD (R 26).length), (24, .grow 4), (0, .loc 0 0)], WH now (((R 26).take i).foldl (laidR now) (upd R 26 [])) (R 26) U M c o2, 53, (upto 4 0, 4)⟩, fun i => i ≤ (R 26).length, fun i => (R 26).length - i, ⟨0, [(4, 31), (31, 70)], [31], ?_, Nat.zero_le _⟩, ?_⟩
  · repeat' (first | exact trivial | exact .inl (DLe.refl _) | exact .inl (DLe.nil _ _) | (refine .inr ⟨rfl, _, ?_, rfl⟩; rfl) | exact rfl | exact Nat.zero_le _ | constructor)
    exact ho _ _ _
  · intro i hi
    have hb := fold_len now ((R 26).take i) (upd R 26 [])
    have hpos : (R 26)[i]? = none → (R 26).length ≤ i := fun h => List.getElem?_eq_none_iff.1 h
    conv => whnf
    refine Fork.intro (fun h1 => ?_) (fun h1 => ?_)
    · have hlt : (i : Int) < (R 26).length := of_decide_eq_true h1
      conv => whnf
      refine ⟨rfl, ⟨by omega, hlt⟩, ?_⟩
      conv => whnf
      refine ⟨rfl, by show (i : Int).toNat < _; omega, fun a ha => ?_⟩
      have hak : (R 26)[i]? = some a := by simpa using ha
      have hai := hat a (List.mem_of_getElem? hak)
      conv => whnf
      refine CallVC.cov (args1 := [.loc 0 0, .agg (alD a)]) [] [] ⟨[(26, intD i), (25, intD (R 26).length), (24, .grow 4), (0, .loc 0 0)], WH now (((R 26).take i).foldl (laidR now) (upd R 26 [])) (R 26) U M c o2, 53, (upto 4 0, 4)⟩ ?_ ?_ (lay_vc _ now _ _ _ _ _ o2 _ a rfl rfl ho hn hai (fun j => by
        have h2 := hb j
        have h3 : (upd R 26 [] j).length ≤ 100 := upd_nil_len hl j
        rw [List.length_take] at h2
        omega) ?_)
      · repeat' (first | exact trivial | exact .inl (DLe.refl _) | exact .inl (DLe.nil _ _) | (refine .inr ⟨rfl, _, ?_, rfl⟩; rfl) | exact rfl | exact Nat.zero_le _ | constructor)
        exact ho _ _ _
      · repeat' (first | exact trivial | exact .inl (DLe.refl _) | exact .inl (DLe.nil _ _) | (refine .inr ⟨rfl, _, ?_, rfl⟩; rfl) | exact rfl | exact Nat.zero_le _ | constructor)
      · conv => whnf
        rw [wrap_next (show i < (R 26).length by omega) (by omega)]
        refine ⟨i + 1, [], [], ?_, by show i + 1 ≤ _; omega, by show (R 26).length - (i + 1) < (R 26).length - i; omega⟩
        show Cover _ _ _ ⟨_, WH now (((R 26).take (i + 1)).foldl (laidR now) (upd R 26 [])) _ _ _ _ _, _, _⟩
        rw [take_snoc hak, List.foldl_append]
        repeat' (first | exact trivial | exact .inl (DLe.refl _) | exact .inl (DLe.nil _ _) | (refine .inr ⟨rfl, _, ?_, rfl⟩; rfl) | exact rfl | exact Nat.zero_le _ | constructor)
        exact ho _ _ _
    · have hge : ¬ (i : Int) < (R 26).length := of_decide_eq_false h1
      have hil : (R 26).take i = R 26 := List.take_of_length_le (by omega)
      conv => whnf
      rw [hil]
      refine ⟨[], [], .tup [], WH now (pourR now 26 R) (R 26) U M c o2, 53, ?_, hK⟩
      repeat' (first | exact trivial | exact .inl (DLe.refl _) | exact .inl (DLe.nil _ _) | (refine .inr ⟨rfl, _, ?_, rfl⟩; rfl) | exact rfl | exact Nat.zero_le _ | constructor)
      exact ho _ _ _

theorem pour_27 (F : List (Nat × D)) (now : Int) (R : Nat → List Al) (T U : List Al) (M : List ME) (c : Nat) (o2 : LO) (G : List Nat × Nat) {K : D → St → Prop} (hF : F.all (fun p => cutOk 6 4 p.2) = true) (hG : Nat.ble G.2 4 = true) (ho : ∀ r z n, LOLe r z n o2 o2) (hn : 0 ≤ now ∧ now ≤ 1099511627776) (hat : ∀ a, a ∈ R 27 → 0 ≤ a.at_ ∧ a.at_ ≤ 1099511627776) (hl : ∀ j, (R j).length ≤ 100)
    (hK : K (.tup []) ⟨F, WH now (pourR now 27 R) (R 27) U M c o2, 53, G⟩) : CallVC Tryz.prog false 65 [.loc 0 0, intD 1, intD 11] ⟨F, WH now R T U M c o2, 53, G⟩ K := by
  have hlen := hl 27
  refine toIn 4 [] Tryz.func65 rfl (by kernel_rfl) (Nat.le_of_ble_eq_true rfl) (by decide) hG rfl hF ?_
  conv => whnf
  refine ⟨by decide, ?_⟩
  conv => whnf
  refine ⟨by decide, ?_⟩
  conv => whnf
  refine ⟨by decide, ?_⟩
  conv => whnf
  refine ⟨by decide, ?_⟩
  conv => whnf
  refine ⟨Nat, fun i => ⟨[(26, intD i), (25, intD (R 27).length), (24, .grow 4), (0, .loc 0 0)], WH now (((R 27).take i).foldl (laidR now) (upd R 27 [])) (R 27) U M c o2, 53, (upto 4 0, 4)⟩, fun i => i ≤ (R 27).length, fun i => (R 27).length - i, ⟨0, [(4, 32), (32, 70)], [32], ?_, Nat.zero_le _⟩, ?_⟩
  · repeat' (first | exact trivial | exact .inl (DLe.refl _) | exact .inl (DLe.nil _ _) | (refine .inr ⟨rfl, _, ?_, rfl⟩; rfl) | exact rfl | exact Nat.zero_le _ | constructor)
    exact ho _ _ _
  · intro i hi
    have hb := fold_len now ((R 27).take i) (upd R 27 [])
    have hpos : (R 27)[i]? = none → (R 27).length ≤ i := fun h => List.getElem?_eq_none_iff.1 h
    conv => whnf
    refine Fork.intro (fun h1 => ?_) (fun h1 => ?_)
    · have hlt : (i : Int) < (R 27).length := of_decide_eq_true h1
      conv => whnf
      refine ⟨rfl, ⟨by omega, hlt⟩, ?_⟩
      conv => whnf
      refine ⟨rfl, by show (i : Int).toNat < _; omega, fun a ha => ?_⟩
      have hak : (R 27)[i]? = some a := by simpa using ha
      have hai := hat a (List.mem_of_getElem? hak)
      conv => whnf
      refine CallVC.cov (args1 := [.loc 0 0, .agg (alD a)]) [] [] ⟨[(26, intD i), (25, intD (R 27).length), (24, .grow 4), (0, .loc 0 0)], WH now (((R 27).take i).foldl (laidR now) (upd R 27 [])) (R 27) U M c o2, 53, (upto 4 0, 4)⟩ ?_ ?_ (lay_vc _ now _ _ _ _ _ o2 _ a rfl rfl ho hn hai (fun j => by
        have h2 := hb j
        have h3 : (upd R 27 [] j).length ≤ 100 := upd_nil_len hl j
        rw [List.length_take] at h2
        omega) ?_)
      · repeat' (first | exact trivial | exact .inl (DLe.refl _) | exact .inl (DLe.nil _ _) | (refine .inr ⟨rfl, _, ?_, rfl⟩; rfl) | exact rfl | exact Nat.zero_le _ | constructor)
        exact ho _ _ _
      · repeat' (first | exact trivial | exact .inl (DLe.refl _) | exact .inl (DLe.nil _ _) | (refine .inr ⟨rfl, _, ?_, rfl⟩; rfl) | exact rfl | exact Nat.zero_le _ | constructor)
      · conv => whnf
        rw [wrap_next (show i < (R 27).length by omega) (by omega)]
        refine ⟨i + 1, [], [], ?_, by show i + 1 ≤ _; omega, by show (R 27).length - (i + 1) < (R 27).length - i; omega⟩
        show Cover _ _ _ ⟨_, WH now (((R 27).take (i + 1)).foldl (laidR now) (upd R 27 [])) _ _ _ _ _, _, _⟩
        rw [take_snoc hak, List.foldl_append]
        repeat' (first | exact trivial | exact .inl (DLe.refl _) | exact .inl (DLe.nil _ _) | (refine .inr ⟨rfl, _, ?_, rfl⟩; rfl) | exact rfl | exact Nat.zero_le _ | constructor)
        exact ho _ _ _
    · have hge : ¬ (i : Int) < (R 27).length := of_decide_eq_false h1
      have hil : (R 27).take i = R 27 := List.take_of_length_le (by omega)
      conv => whnf
      rw [hil]
      refine ⟨[], [], .tup [], WH now (pourR now 27 R) (R 27) U M c o2, 53, ?_, hK⟩
      repeat' (first | exact trivial | exact .inl (DLe.refl _) | exact .inl (DLe.nil _ _) | (refine .inr ⟨rfl, _, ?_, rfl⟩; rfl) | exact rfl | exact Nat.zero_le _ | constructor)
      exact ho _ _ _

theorem pour_28 (F : List (Nat × D)) (now : Int) (R : Nat → List Al) (T U : List Al) (M : List ME) (c : Nat) (o2 : LO) (G : List Nat × Nat) {K : D → St → Prop} (hF : F.all (fun p => cutOk 6 4 p.2) = true) (hG : Nat.ble G.2 4 = true) (ho : ∀ r z n, LOLe r z n o2 o2) (hn : 0 ≤ now ∧ now ≤ 1099511627776) (hat : ∀ a, a ∈ R 28 → 0 ≤ a.at_ ∧ a.at_ ≤ 1099511627776) (hl : ∀ j, (R j).length ≤ 100)
    (hK : K (.tup []) ⟨F, WH now (pourR now 28 R) (R 28) U M c o2, 53, G⟩) : CallVC Tryz.prog false 65 [.loc 0 0, intD 1, intD 12] ⟨F, WH now R T U M c o2, 53, G⟩ K := by
  have hlen := hl 28
  refine toIn 4 [] Tryz.func65 rfl (by kernel_rfl) (Nat.le_of_ble_eq_true rfl) (by decide) hG rfl hF ?_
  conv => whnf
  refine ⟨by decide, ?_⟩
  conv => whnf
  refine ⟨by decide, ?_⟩
  conv => whnf
  refine ⟨by decide, ?_⟩
  conv => whnf
  refine ⟨by decide, ?_⟩
  conv => whnf
  refine ⟨Nat, fun i => ⟨[(26, intD i), (25, intD (R 28).length), (24, .grow 4), (0, .loc 0 0)], WH now (((R 28).take i).foldl (laidR now) (upd R 28 [])) (R 28) U M c o2, 53, (upto 4 0, 4)⟩, fun i => i ≤ (R 28).length, fun i => (R 28).length - i, ⟨0, [(4, 33), (33, 70)], [33], ?_, Nat.zero_le _⟩, ?_⟩
  · repeat' (first | exact trivial | exact .inl (DLe.refl _) | exact .inl (DLe.nil _ _) | (refine .inr ⟨rfl, _, ?_, rfl⟩; rfl) | exact rfl | exact Nat.zero_le _ | constructor)
    exact ho _ _ _
  · intro i hi
    have hb := fold_len now ((R 28).take i) (upd R 28 [])
    have hpos : (R 28)[i]? = none → (R 28).length ≤ i := fun h => List.getElem?_eq_none_iff.1 h
    conv => whnf
    refine Fork.intro (fun h1 => ?_) (fun h1 => ?_)
    · have hlt : (i : Int) < (R 28).length := of_decide_eq_true h1
      conv => whnf
      refine ⟨rfl, ⟨by omega, hlt⟩, ?_⟩
      conv => whnf
      refine ⟨rfl, by show (i : Int).toNat < _; omega, fun a ha => ?_⟩
      have hak : (R 28)[i]? = some a := by simpa using ha
      have hai := hat a (List.mem_of_getElem? hak)
      conv => whnf
      refine CallVC.cov (args1 := [.loc 0 0, .agg (alD a)]) [] [] ⟨[(26, intD i), (25, intD (R 28).length), (24, .grow 4), (0, .loc 0 0)], WH now (((R 28).take i).foldl (laidR now) (upd R 28 [])) (R 28) U M c o2, 53, (upto 4 0, 4)⟩ ?_ ?_ (lay_vc _ now _ _ _ _ _ o2 _ a rfl rfl ho hn hai (fun j => by
        have h2 := hb j
        have h3 : (upd R 28 [] j).length ≤ 100 := upd_nil_len hl j
        rw [List.length_take] at h2
        omega) ?_)
      · repeat' (first | exact trivial | exact .inl (DLe.refl _) | exact .inl (DLe.nil _ _) | (refine .inr ⟨rfl, _, ?_, rfl⟩; rfl) | exact rfl | exact Nat.zero_le _ | constructor)
        exact ho _ _ _
      · repeat' (first | exact trivial | exact .inl (DLe.refl _) | exact .inl (DLe.nil _ _) | (refine .inr ⟨rfl, _, ?_, rfl⟩; rfl) | exact rfl | exact Nat.zero_le _ | constructor)
      · conv => whnf
        rw [wrap_next (show i < (R 28).length by omega) (by omega)]
        refine ⟨i + 1, [], [], ?_, by show i + 1 ≤ _; omega, by show (R 28).length - (i + 1) < (R 28).length - i; omega⟩
        show Cover _ _ _ ⟨_, WH now (((R 28).take (i + 1)).foldl (laidR now) (upd R 28 [])) _ _ _ _ _, _, _⟩
        rw [take_snoc hak, List.foldl_append]
        repeat' (first | exact trivial | exact .inl (DLe.refl _) | exact .inl (DLe.nil _ _) | (refine .inr ⟨rfl, _, ?_, rfl⟩; rfl) | exact rfl | exact Nat.zero_le _ | constructor)
        exact ho _ _ _
    · have hge : ¬ (i : Int) < (R 28).length := of_decide_eq_false h1
      have hil : (R 28).take i = R 28 := List.take_of_length_le (by omega)
      conv => whnf
      rw [hil]
      refine ⟨[], [], .tup [], WH now (pourR now 28 R) (R 28) U M c o2, 53, ?_, hK⟩
      repeat' (first | exact trivial | exact .inl (DLe.refl _) | exact .inl (DLe.nil _ _) | (refine .inr ⟨rfl, _, ?_, rfl⟩; rfl) | exact rfl | exact Nat.zero_le _ | constructor)
      exact ho _ _ _

theorem pour_29 (F : List (Nat × D)) (now : Int) (R : Nat → List Al) (T U : List Al) (M : List ME) (c : Nat) (o2 : LO) (G : List Nat × Nat) {K : D → St → Prop} (hF : F.all (fun p => cutOk 6 4 p.2) = true) (hG : Nat.ble G.2 4 = true) (ho : ∀ r z n, LOLe r z n o2 o2) (hn : 0 ≤ now ∧ now ≤ 1099511627776) (hat : ∀ a, a ∈ R 29 → 0 ≤ a.at_ ∧ a.at_ ≤ 1099511627776) (hl : ∀ j, (R j).length ≤ 100)
    (hK : K (.tup []) ⟨F, WH now (pourR now 29 R) (R 29) U M c o2, 53, G⟩) : CallVC Tryz.prog false 65 [.loc 0 0, intD 1, intD 13] ⟨F, WH now R T U M c o2, 53, G⟩ K := by
  have hlen := hl 29
  refine toIn 4 [] Tryz.func65 rfl (by kernel_rfl) (Nat.le_of_ble_eq_true rfl) (by decide) hG rfl hF ?_
  conv => whnf
  refine ⟨by decide, ?_⟩
  conv => whnf
  refine ⟨by decide, ?_⟩
  conv => whnf
  refine ⟨by decide, ?_⟩
  conv => whnf
  refine ⟨by decide, ?_⟩
  conv => whnf
  refine ⟨Nat, fun i => ⟨[(26, intD i), (25, intD (R 29).length), (24, .grow 4), (0, .loc 0 0)], WH now (((R 29).take i).foldl (laidR now) (upd R 29 [])) (R 29) U M c o2, 53, (upto 4 0, 4)⟩, fun i => i ≤ (R 29).length, fun i => (R 29).length - i, ⟨0, [(4, 34), (34, 70)], [34], ?_, Nat.zero_le _⟩, ?_⟩
  · repeat' (first | exact trivial | exact .inl (DLe.refl _) | exact .inl (DLe.nil _ _) | (refine .inr ⟨rfl, _, ?_, rfl⟩; rfl) | exact rfl | exact Nat.zero_le _ | constructor)
    exact ho _ _ _
  · intro i hi
    have hb := fold_len now ((R 29).take i) (upd R 29 [])
    have hpos : (R 29)[i]? = none → (R 29).length ≤ i := fun h => List.getElem?_eq_none_iff.1 h
    conv => whnf
    refine Fork.intro (fun h1 => ?_) (fun h1 => ?_)
    · have hlt : (i : Int) < (R 29).length := of_decide_eq_true h1
      conv => whnf
      refine ⟨rfl, ⟨by omega, hlt⟩, ?_⟩
      conv => whnf
      refine ⟨rfl, by show (i : Int).toNat < _; omega, fun a ha => ?_⟩
      have hak : (R 29)[i]? = some a := by simpa using ha
      have hai := hat a (List.mem_of_getElem? hak)
      conv => whnf
      refine CallVC.cov (args1 := [.loc 0 0, .agg (alD a)]) [] [] ⟨[(26, intD i), (25, intD (R 29).length), (24, .grow 4), (0, .loc 0 0)], WH now (((R 29).take i).foldl (laidR now) (upd R 29 [])) (R 29) U M c o2, 53, (upto 4 0, 4)⟩ ?_ ?_ (lay_vc _ now _ _ _ _ _ o2 _ a rfl rfl ho hn hai (fun j => by
        have h2 := hb j
        have h3 : (upd R 29 [] j).length ≤ 100 := upd_nil_len hl j
        rw [List.length_take] at h2
        omega) ?_)
      · repeat' (first | exact trivial | exact .inl (DLe.refl _) | exact .inl (DLe.nil _ _) | (refine .inr ⟨rfl, _, ?_, rfl⟩; rfl) | exact rfl | exact Nat.zero_le _ | constructor)
        exact ho _ _ _
      · repeat' (first | exact trivial | exact .inl (DLe.refl _) | exact .inl (DLe.nil _ _) | (refine .inr ⟨rfl, _, ?_, rfl⟩; rfl) | exact rfl | exact Nat.zero_le _ | constructor)
      · conv => whnf
        rw [wrap_next (show i < (R 29).length by omega) (by omega)]
        refine ⟨i + 1, [], [], ?_, by show i + 1 ≤ _; omega, by show (R 29).length - (i + 1) < (R 29).length - i; omega⟩
        show Cover _ _ _ ⟨_, WH now (((R 29).take (i + 1)).foldl (laidR now) (upd R 29 [])) _ _ _ _ _, _, _⟩
        rw [take_snoc hak, List.foldl_append]
        repeat' (first | exact trivial | exact .inl (DLe.refl _) | exact .inl (DLe.nil _ _) | (refine .inr ⟨rfl, _, ?_, rfl⟩; rfl) | exact rfl | exact Nat.zero_le _ | constructor)
        exact ho _ _ _
    · have hge : ¬ (i : Int) < (R 29).length := of_decide_eq_false h1
      have hil : (R 29).take i = R 29 := List.take_of_length_le (by omega)
      conv => whnf
      rw [hil]
      refine ⟨[], [], .tup [], WH now (pourR now 29 R) (R 29) U M c o2, 53, ?_, hK⟩
      repeat' (first | exact trivial | exact .inl (DLe.refl _) | exact .inl (DLe.nil _ _) | (refine .inr ⟨rfl, _, ?_, rfl⟩; rfl) | exact rfl | exact Nat.zero_le _ | constructor)
      exact ho _ _ _

theorem pour_30 (F : List (Nat × D)) (now : Int) (R : Nat → List Al) (T U : List Al) (M : List ME) (c : Nat) (o2 : LO) (G : List Nat × Nat) {K : D → St → Prop} (hF : F.all (fun p => cutOk 6 4 p.2) = true) (hG : Nat.ble G.2 4 = true) (ho : ∀ r z n, LOLe r z n o2 o2) (hn : 0 ≤ now ∧ now ≤ 1099511627776) (hat : ∀ a, a ∈ R 30 → 0 ≤ a.at_ ∧ a.at_ ≤ 1099511627776) (hl : ∀ j, (R j).length ≤ 100)
    (hK : K (.tup []) ⟨F, WH now (pourR now 30 R) (R 30) U M c o2, 53, G⟩) : CallVC Tryz.prog false 65 [.loc 0 0, intD 1, intD 14] ⟨F, WH now R T U M c o2, 53, G⟩ K := by
  have hlen := hl 30
  refine toIn 4 [] Tryz.func65 rfl (by kernel_rfl) (Nat.le_of_ble_eq_true rfl) (by decide) hG rfl hF ?_
  conv => whnf
  refine ⟨by decide, ?_⟩
  conv => whnf
  refine ⟨by decide, ?_⟩
  conv => whnf
  refine ⟨by decide, ?_⟩
  conv => whnf
  refine ⟨by decide, ?_⟩
  conv => whnf
  refine ⟨Nat, fun i => ⟨[(26, intD i), (25, intD (R 30).length), (24, .grow 4), (0, .loc 0 0)], WH now (((R 30).take i).foldl (laidR now) (upd R 30 [])) (R 30) U M c o2, 53, (upto 4 0, 4)⟩, fun i => i ≤ (R 30).length, fun i => (R 30).length - i, ⟨0, [(4, 35), (35, 70)], [35], ?_, Nat.zero_le _⟩, ?_⟩
  · repeat' (first | exact trivial | exact .inl (DLe.refl _) | exact .inl (DLe.nil _ _) | (refine .inr ⟨rfl, _, ?_, rfl⟩; rfl) | exact rfl | exact Nat.zero_le _ | constructor)
    exact ho _ _ _
  · intro i hi
    have hb := fold_len now ((R 30).take i) (upd R 30 [])
    have hpos : (R 30)[i]? = none → (R 30).length ≤ i := fun h => List.getElem?_eq_none_iff.1 h
    conv => whnf
    refine Fork.intro (fun h1 => ?_) (fun h1 => ?_)
    · have hlt : (i : Int) < (R 30).length := of_decide_eq_true h1
      conv => whnf
      refine ⟨rfl, ⟨by omega, hlt⟩, ?_⟩
      conv => whnf
      refine ⟨rfl, by show (i : Int).toNat < _; omega, fun a ha => ?_⟩
      have hak : (R 30)[i]? = some a := by simpa using ha
      have hai := hat a (List.mem_of_getElem? hak)
      conv => whnf
      refine CallVC.cov (args1 := [.loc 0 0, .agg (alD a)]) [] [] ⟨[(26, intD i), (25, intD (R 30).length), (24, .grow 4), (0, .loc 0 0)], WH now (((R 30).take i).foldl (laidR now) (upd R 30 [])) (R 30) U M c o2, 53, (upto 4 0, 4)⟩ ?_ ?_ (lay_vc _ now _ _ _ _ _ o2 _ a rfl rfl ho hn hai (fun j => by
        have h2 := hb j
        have h3 : (upd R 30 [] j).length ≤ 100 := upd_nil_len hl j
        rw [List.length_take] at h2
        omega) ?_)
      · repeat' (first | exact trivial | exact .inl (DLe.refl _) | exact .inl (DLe.nil _ _) | (refine .inr ⟨rfl, _, ?_, rfl⟩; rfl) | exact rfl | exact Nat.zero_le _ | constructor)
        exact ho _ _ _
      · repeat' (first | exact trivial | exact .inl (DLe.refl _) | exact .inl (DLe.nil _ _) | (refine .inr ⟨rfl, _, ?_, rfl⟩; rfl) | exact rfl | exact Nat.zero_le _ | constructor)
      · conv => whnf
        rw [wrap_next (show i < (R 30).length by omega) (by omega)]
        refine ⟨i + 1, [], [], ?_, by show i + 1 ≤ _; omega, by show (R 30).length - (i + 1) < (R 30).length - i; omega⟩
        show Cover _ _ _ ⟨_, WH now (((R 30).take (i + 1)).foldl (laidR now) (upd R 30 [])) _ _ _ _ _, _, _⟩
        rw [take_snoc hak, List.foldl_append]
        repeat' (first | exact trivial | exact .inl (DLe.refl _) | exact .inl (DLe.nil _ _) | (refine .inr ⟨rfl, _, ?_, rfl⟩; rfl) | exact rfl | exact Nat.zero_le _ | constructor)
        exact ho _ _ _
    · have hge : ¬ (i : Int) < (R 30).length := of_decide_eq_false h1
      have hil : (R 30).take i = R 30 := List.take_of_length_le (by omega)
      conv => whnf
      rw [hil]
      refine ⟨[], [], .tup [], WH now (pourR now 30 R) (R 30) U M c o2, 53, ?_, hK⟩
      repeat' (first | exact trivial | exact .inl (DLe.refl _) | exact .inl (DLe.nil _ _) | (refine .inr ⟨rfl, _, ?_, rfl⟩; rfl) | exact rfl | exact Nat.zero_le _ | constructor)
      exact ho _ _ _

theorem pour_31 (F : List (Nat × D)) (now : Int) (R : Nat → List Al) (T U : List Al) (M : List ME) (c : Nat) (o2 : LO) (G : List Nat × Nat) {K : D → St → Prop} (hF : F.all (fun p => cutOk 6 4 p.2) = true) (hG : Nat.ble G.2 4 = true) (ho : ∀ r z n, LOLe r z n o2 o2) (hn : 0 ≤ now ∧ now ≤ 1099511627776) (hat : ∀ a, a ∈ R 31 → 0 ≤ a.at_ ∧ a.at_ ≤ 1099511627776) (hl : ∀ j, (R j).length ≤ 100)
    (hK : K (.tup []) ⟨F, WH now (pourR now 31 R) (R 31) U M c o2, 53, G⟩) : CallVC Tryz.prog false 65 [.loc 0 0, intD 1, intD 15] ⟨F, WH now R T U M c o2, 53, G⟩ K := by
  have hlen := hl 31
  refine toIn 4 [] Tryz.func65 rfl (by kernel_rfl) (Nat.le_of_ble_eq_true rfl) (by decide) hG rfl hF ?_
  conv => whnf
  refine ⟨by decide, ?_⟩
  conv => whnf
  refine ⟨by decide, ?_⟩
  conv => whnf
  refine ⟨by decide, ?_⟩
  conv => whnf
  refine ⟨by decide, ?_⟩
  conv => whnf
  refine ⟨Nat, fun i => ⟨[(26, intD i), (25, intD (R 31).length), (24, .grow 4), (0, .loc 0 0)], WH now (((R 31).take i).foldl (laidR now) (upd R 31 [])) (R 31) U M c o2, 53, (upto 4 0, 4)⟩, fun i => i ≤ (R 31).length, fun i => (R 31).length - i, ⟨0, [(4, 36), (36, 70)], [36], ?_, Nat.zero_le _⟩, ?_⟩
  · repeat' (first | exact trivial | exact .inl (DLe.refl _) | exact .inl (DLe.nil _ _) | (refine .inr ⟨rfl, _, ?_, rfl⟩; rfl) | exact rfl | exact Nat.zero_le _ | constructor)
    exact ho _ _ _
  · intro i hi
    have hb := fold_len now ((R 31).take i) (upd R 31 [])
    have hpos : (R 31)[i]? = none → (R 31).length ≤ i := fun h => List.getElem?_eq_none_iff.1 h
    conv => whnf
    refine Fork.intro (fun h1 => ?_) (fun h1 => ?_)
    · have hlt : (i : Int) < (R 31).length := of_decide_eq_true h1
      conv => whnf
      refine ⟨rfl, ⟨by omega, hlt⟩, ?_⟩
      conv => whnf
      refine ⟨rfl, by show (i : Int).toNat < _; omega, fun a ha => ?_⟩
      have hak : (R 31)[i]? = some a := by simpa using ha
      have hai := hat a (List.mem_of_getElem? hak)
      conv => whnf
      refine CallVC.cov (args1 := [.loc 0 0, .agg (alD a)]) [] [] ⟨[(26, intD i), (25, intD (R 31).length), (24, .grow 4), (0, .loc 0 0)], WH now (((R 31).take i).foldl (laidR now) (upd R 31 [])) (R 31) U M c o2, 53, (upto 4 0, 4)⟩ ?_ ?_ (lay_vc _ now _ _ _ _ _ o2 _ a rfl rfl ho hn hai (fun j => by
        have h2 := hb j
        have h3 : (upd R 31 [] j).length ≤ 100 := upd_nil_len hl j
        rw [List.length_take] at h2
        omega) ?_)
      · repeat' (first | exact trivial | exact .inl (DLe.refl _) | exact .inl (DLe.nil _ _) | (refine .inr ⟨rfl, _, ?_, rfl⟩; rfl) | exact rfl | exact Nat.zero_le _ | constructor)
        exact ho _ _ _
      · repeat' (first | exact trivial | exact .inl (DLe.refl _) | exact .inl (DLe.nil _ _) | (refine .inr ⟨rfl, _, ?_, rfl⟩; rfl) | exact rfl | exact Nat.zero_le _ | constructor)
      · conv => whnf
        rw [wrap_next (show i < (R 31).length by omega) (by omega)]
        refine ⟨i + 1, [], [], ?_, by show i + 1 ≤ _; omega, by show (R 31).length - (i + 1) < (R 31).length - i; omega⟩
        show Cover _ _ _ ⟨_, WH now (((R 31).take (i + 1)).foldl (laidR now) (upd R 31 [])) _ _ _ _ _, _, _⟩
        rw [take_snoc hak, List.foldl_append]
        repeat' (first | exact trivial | exact .inl (DLe.refl _) | exact .inl (DLe.nil _ _) | (refine .inr ⟨rfl, _, ?_, rfl⟩; rfl) | exact rfl | exact Nat.zero_le _ | constructor)
        exact ho _ _ _
    · have hge : ¬ (i : Int) < (R 31).length := of_decide_eq_false h1
      have hil : (R 31).take i = R 31 := List.take_of_length_le (by omega)
      conv => whnf
      rw [hil]
      refine ⟨[], [], .tup [], WH now (pourR now 31 R) (R 31) U M c o2, 53, ?_, hK⟩
      repeat' (first | exact trivial | exact .inl (DLe.refl _) | exact .inl (DLe.nil _ _) | (refine .inr ⟨rfl, _, ?_, rfl⟩; rfl) | exact rfl | exact Nat.zero_le _ | constructor)
      exact ho _ _ _
end Go.Proofs.YtcbpdjikdohegaaGreat.V
