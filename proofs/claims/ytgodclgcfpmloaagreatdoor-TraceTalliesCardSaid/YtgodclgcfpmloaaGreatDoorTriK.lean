/-
  The law TraceTallies by value, where lives is true. Conditions: bytes, numbers of their types.
-/
import Derived.Test.YtgodclgcfpmloaaGreatDoorK12
namespace Go.Proofs.YtgodclgcfpmloaaGreatDoor.V
open Go.RowKit
attribute [local irreducible] Fn FnN FnR OpVC DLe

def cutS (x : Snt) : Snt := ⟨x.nic, x.frame.take 400⟩
theorem join_snoc : ∀ (L : List (List Nat)) (x : List Nat), joinN [32] (L ++ [x]) = match L with | [] => x | _ :: _ => joinN [32] L ++ 32 :: x
  | [], x => by simp [joinN]
  | [a], x => by simp [joinN]
  | a :: b :: r, x => by
    have := join_snoc (b :: r) x
    show joinN [32] (a :: ((b :: r) ++ [x])) = joinN [32] (a :: b :: r) ++ 32 :: x
    rw [show joinN [32] (a :: ((b :: r) ++ [x])) = a ++ 32 :: joinN [32] ((b :: r) ++ [x]) from by simp [joinN, List.intercalate, List.intersperse], this, show joinN [32] (a :: b :: r) = a ++ 32 :: joinN [32] (b :: r) from by simp [joinN, List.intercalate, List.intersperse]]
    simp
theorem tally_app {c : List Nat → Nat} (w : List Nat) : ∀ W : List (List Nat), tallyL c (W ++ [w]) = tallyL c W ++ tallyL c [w]
  | [] => rfl
  | x :: W => by
    have ih := tally_app (c := c) w W
    rw [List.cons_append]
    by_cases h : 0 < c x
    · rw [tally_pos h, tally_pos h, ih]; rfl
    · rw [tally_neg h, tally_neg h, ih]
theorem join_nil_iff {L : List (List Nat)} (h : ∀ x, x ∈ L → x ≠ []) : joinN [32] L = [] ↔ L = [] := by
  constructor
  · intro e
    match L, h, e with
    | [], _, _ => rfl
    | [a], h, e => exact absurd (by simpa [joinN] using e) (h a List.mem_cons_self)
    | a :: b :: r, h, e => simp [joinN] at e
  · rintro rfl; rfl
theorem tally_ne {c : List Nat → Nat} {W : List (List Nat)} : ∀ x, x ∈ tallyL c W → x ≠ [] := by
  intro x hx
  induction W with
  | nil => exact absurd hx List.not_mem_nil
  | cons w W ih =>
    by_cases h : 0 < c w
    · rw [tally_pos h] at hx
      rcases List.mem_cons.1 hx with rfl | hx
      · simp
      · exact ih hx
    · rw [tally_neg h] at hx
      exact ih hx
set_option maxHeartbeats 8000000 in
theorem tallies_fn (hlv : Fn Tryz.prog 8 [] fun d => d = boolD true) (L : List Snt) (hL : ∀ x, x ∈ L → Byt x.frame) : Fn Tryz.prog 3 [rowsS L] fun d => d = boolD true := by
  refine fnOf [] Tryz.func3 rfl (by kernel_rfl) (Nat.le_of_ble_eq_true rfl) ?_
  conv => whnf
  refine ⟨Nat, fun k => ⟨[(4, intD k), (3, .grow 0), (0, rowsS L)], [(0, .grow Snt 25 2 sntD ((L.take k).map cutS))], 1, ([], 0)⟩, fun k => k ≤ 20 ∧ k ≤ L.length, fun k => 20 - k, ⟨0, [], [0], ?_, ⟨Nat.zero_le _, Nat.zero_le _⟩⟩, ?_⟩
  · repeat' (first | exact trivial | exact .inl (DLe.refl _) | exact .inl (DLe.nil _ _) | (refine .inr ⟨rfl, _, ?_, rfl⟩; rfl) | exact rfl | exact .inl rfl | exact .inr ⟨rfl, rfl, rfl, rfl⟩ | exact Nat.zero_le _ | constructor)
  intro k ⟨hk1, hk2⟩
  have e0 := wrapN (n := k) (by omega)
  have hstop : (decide ((k : Int) < (L.length : Int)) = false ∨ decide ((k : Int) < 20) = false) → L.take k = L.take 20 := by
    rintro (h | h)
    · have := of_decide_eq_false h
      rw [List.take_of_length_le (by omega), List.take_of_length_le (by omega)]
    · have := of_decide_eq_false h
      rw [show k = 20 by omega]
  conv => whnf
  refine Fork.intro (fun q => ?_) (fun q => ?_)
  · have q' : k < L.length := by have := of_decide_eq_true q; omega
    conv => whnf
    refine Fork.intro (fun q2 => ?_) (fun q2 => ?_)
    · have q2' : k < 20 := by have := of_decide_eq_true q2; omega
      obtain ⟨x, hx⟩ : ∃ x, L[k]? = some x := ⟨_, List.getElem?_eq_getElem q'⟩
      have ht : (L.take (k + 1)).map cutS = (L.take k).map cutS ++ [cutS x] := by rw [List.take_add_one, hx, List.map_append]; rfl
      have hf := fewT_fn x.frame 400 (by decide)
      conv => whnf
      refine ⟨rfl, ⟨by omega, by omega⟩, fun y hy => ?_⟩
      obtain rfl : x = y := Option.some.inj (hx.symm.trans hy)
      conv => whnf
      (refine CallVC.pure (hf) rfl ?_; rintro _ rfl; conv => whnf)
      (refine ⟨Nat.le_of_ble_eq_true rfl, ?_⟩; conv => whnf)
      refine ⟨Snt, sntD, (L.take (k + 1)).map cutS, by rw [ht, List.map_append]; rfl, fun _ => rfl, by rw [List.length_map, List.length_take]; omega, by rw [List.length_map, List.length_take]; show _ * 32 ≤ _; omega, rfl, ?_⟩
      conv => whnf
      rw [e0]
      refine ⟨k + 1, [(0, 2)], [], ?_, ⟨by omega, q'⟩, by show 20 - (k + 1) < 20 - k; omega⟩
      repeat' (first | exact trivial | exact .inl (DLe.refl _) | exact .inl (DLe.nil _ _) | (refine .inr ⟨rfl, _, ?_, rfl⟩; rfl) | exact rfl | exact .inl rfl | exact .inr ⟨rfl, rfl, rfl, rfl⟩ | exact Nat.zero_le _ | constructor)
    · have hst := hstop (.inr q2)
      rw [hst]
      conv => whnf
      have hA : sntsOk ((L.take 20).map cutS) := fun y hy => by
        obtain ⟨z, hz, rfl⟩ := List.mem_map.1 hy
        exact ⟨(hL z (List.mem_of_mem_take hz)).take 400, by show (z.frame.take 400).length ≤ _; rw [List.length_take]; omega⟩
      have hAl : ((L.take 20).map cutS).length ≤ 20 := by rw [List.length_map, List.length_take]; omega
      generalize (L.take 20).map cutS = A at *
      have htal := tally_fn A hA hAl
      have hkl : (kindsOf A).length = A.length := List.length_map _
      unfold tallyT at htal
      generalize hc : (fun w => (kindsOf A).count w) = c at *
      have hcb : ∀ w, c w ≤ 20 := fun w => by
        rw [← hc]
        have := List.count_le_length (a := w) (l := kindsOf A)
        show (kindsOf A).count w ≤ 20
        omega
      have hto := tallyL_ok (c := c) (fun w => by have := hcb w; omega) word_len
      conv => whnf
      (refine ⟨Nat.le_of_ble_eq_true rfl, ?_⟩; conv => whnf)
      refine ⟨Nat, fun k => ⟨[(35, intD k), (34, intD (7 : Nat)), (33, rowsT kinds7), (6, strD (joinN [32] (tallyL c (kinds7.take k)))), (3, .grow 0)], [(0, .grow Snt 25 2 sntD A)], 1, ([], 0)⟩, fun k => k ≤ 7, fun k => 7 - k, ⟨0, [], [], ?_, Nat.zero_le _⟩, ?_⟩
      · repeat' (first | exact trivial | exact .inl (DLe.refl _) | exact .inl (DLe.nil _ _) | (refine .inr ⟨rfl, _, ?_, rfl⟩; rfl) | exact rfl | exact .inl rfl | exact .inr ⟨rfl, rfl, rfl, rfl⟩ | exact Nat.zero_le _ | constructor)
        exact litRows (L := kinds7) (enc := strE) fun y d hd => by simp [strE] at hd; subst hd; rfl
      intro m hm
      replace hm : m ≤ 7 := hm
      have e2 := wrapN (n := m) (by omega)
      conv => whnf
      refine Fork.intro (fun r => ?_) (fun r => ?_)
      · have r' : m < 7 := by have := of_decide_eq_true r; omega
        have h7 : kinds7.length = 7 := rfl
        obtain ⟨x, hx⟩ : ∃ x, kinds7[m]? = some x := ⟨_, List.getElem?_eq_getElem (by omega)⟩
        conv => whnf
        refine ⟨rfl, ⟨by omega, by omega⟩, fun y hy => ?_⟩
        obtain rfl : x = y := Option.some.inj (hx.symm.trans hy)
        conv => whnf
        refine ⟨Nat, fun i => ⟨[(35, intD m), (34, intD (7 : Nat)), (33, rowsT kinds7), (10, intD i), (9, intD (((kindsOf A).take i).count x : Nat)), (8, strD x), (6, strD (joinN [32] (tallyL c (kinds7.take m)))), (3, .grow 0)], [(0, .grow Snt 25 2 sntD A)], 1, ([], 0)⟩, fun i => i ≤ A.length, fun i => A.length - i, ⟨0, [], [], ?_, Nat.zero_le _⟩, ?_⟩
        · repeat' (first | exact trivial | exact .inl (DLe.refl _) | exact .inl (DLe.nil _ _) | (refine .inr ⟨rfl, _, ?_, rfl⟩; rfl) | exact rfl | exact .inl rfl | exact .inr ⟨rfl, rfl, rfl, rfl⟩ | exact Nat.zero_le _ | constructor)
        intro i hi
        replace hi : i ≤ A.length := hi
        have e3 := wrapN (n := i) (by omega)
        have hx7 : x ∈ kinds7 := List.mem_of_getElem? hx
        have hxw := word_len x hx7
        have hcx : c x = (kindsOf A).count x := by rw [← hc]
        have hci : ((kindsOf A).take i).count x ≤ i := by
          have h1 := List.count_le_length (a := x) (l := (kindsOf A).take i)
          rw [List.length_take] at h1
          omega
        conv => whnf
        refine Fork.intro (fun s => ?_) (fun s => ?_)
        · have s' : i < A.length := by have := of_decide_eq_true s; omega
          obtain ⟨f, hf⟩ : ∃ f, A[i]? = some f := ⟨_, List.getElem?_eq_getElem s'⟩
          have hki := rKind_fn f (hA f (List.mem_of_getElem? hf)).1 (hA f (List.mem_of_getElem? hf)).2
          have hkk := (word_len _ (kindFr_mem f.frame)).1
          have hcc : ((kindsOf A).take (i + 1)).count x = ((kindsOf A).take i).count x + (if kindFr f.frame = x then 1 else 0) := by
            rw [List.take_add_one, List.count_append]
            congr 1
            unfold kindsOf
            rw [List.getElem?_map, hf]
            show [kindFr f.frame].count x = _
            by_cases h : kindFr f.frame = x
            · rw [h]; simp
            · rw [if_neg h]; simp [h]
          conv => whnf
          refine ⟨rfl, ⟨by omega, by omega⟩, ?_⟩
          conv => whnf
          refine ⟨rfl, by show (Int.toNat (i : Int)) < _; omega, fun z hz => ?_⟩
          obtain rfl : f = z := Option.some.inj (hf.symm.trans hz)
          conv => whnf
          (refine CallVC.pure (hki) rfl ?_; rintro _ rfl; conv => whnf)
          rw [strB_beq hkk hxw.1]
          refine Fork.intro (fun s2 => ?_) (fun s2 => ?_)
          · have s2' : kindFr f.frame = x := of_decide_eq_true s2
            rw [if_pos s2'] at hcc
            have e4 := wrapN (n := ((kindsOf A).take i).count x) (by omega)
            conv => whnf
            rw [e4, e3, ← hcc]
            refine ⟨i + 1, [], [], ?_, by show i + 1 ≤ A.length; omega, by show A.length - (i + 1) < A.length - i; omega⟩
            repeat' (first | exact trivial | exact .inl (DLe.refl _) | exact .inl (DLe.nil _ _) | (refine .inr ⟨rfl, _, ?_, rfl⟩; rfl) | exact rfl | exact .inl rfl | exact .inr ⟨rfl, rfl, rfl, rfl⟩ | exact Nat.zero_le _ | constructor)
          · have s2' : ¬ kindFr f.frame = x := of_decide_eq_false s2
            replace hcc : ((kindsOf A).take (i + 1)).count x = ((kindsOf A).take i).count x := by rw [hcc, if_neg s2']; rfl
            conv => whnf
            rw [e3, ← hcc]
            refine ⟨i + 1, [], [], ?_, by show i + 1 ≤ A.length; omega, by show A.length - (i + 1) < A.length - i; omega⟩
            repeat' (first | exact trivial | exact .inl (DLe.refl _) | exact .inl (DLe.nil _ _) | (refine .inr ⟨rfl, _, ?_, rfl⟩; rfl) | exact rfl | exact .inl rfl | exact .inr ⟨rfl, rfl, rfl, rfl⟩ | exact Nat.zero_le _ | constructor)
        · have s' : i = A.length := by have := of_decide_eq_false s; omega
          subst s'
          rw [List.take_of_length_le (by omega), ← hcx]
          have hnext : kinds7.take (m + 1) = kinds7.take m ++ [x] := by rw [List.take_add_one, hx]; rfl
          have hpre := tally_app (c := c) x (kinds7.take m)
          rw [← hnext] at hpre
          have hT : ∀ y, y ∈ tallyL c (kinds7.take m) → Byt y ∧ y.length ≤ 15 := tallyL_ok (fun w => by have := hcb w; omega) fun w hw => word_len w (List.mem_of_mem_take hw)
          have hTl : (tallyL c (kinds7.take m)).length ≤ 7 := by
            have h1 := tallyL_len (c := c) (W := kinds7.take m)
            rw [List.length_take] at h1
            omega
          have hTj := join_lenM 15 _ fun y hy => (hT y hy).2
          have hTb : Byt (joinN [32] (tallyL c (kinds7.take m))) := join_byt _ fun y hy => (hT y hy).1
          have hTn := join_nil_iff (L := tallyL c (kinds7.take m)) tally_ne
          have hsn := join_snoc (tallyL c (kinds7.take m)) (x ++ 58 :: dgs (c x))
          have hcxb := hcb x
          have hdg := rNum_fn (c x) (by omega)
          have hdl := dgs_len 9 (c x) (by omega)
          generalize hL0 : tallyL c (kinds7.take m) = L0 at *
          conv => whnf
          refine Fork.intro (fun u => ?_) (fun u => ?_)
          · have u' : 0 < c x := by have := of_decide_eq_true u; omega
            rw [tally_pos u', show tallyL c [] = [] from rfl] at hpre
            rw [← hpre] at hsn
            conv => whnf
            rw [show (⟨#[]⟩ : ByteArray) = strB [] from rfl, strB_beq hTb .nil]
            cases L0 with
            | nil =>
              replace hsn : joinN [32] (tallyL c (kinds7.take (m + 1))) = x ++ 58 :: dgs (c x) := hsn
              rw [show joinN [32] [] = [] from rfl, show decide (([] : List Nat) = []) = true from rfl]
              conv => whnf
              rw [u]
              conv => whnf
              refine ⟨str_le (a := ([] : List Nat)) (b := x) (by simp only [List.length_append, List.length_cons, List.length_nil]; omega), ?_⟩
              rw [strB_append]
              conv => whnf
              refine ⟨str_le (a := ([] : List Nat) ++ x) (b := [58]) (by simp only [List.length_append, List.length_cons, List.length_nil]; omega), ?_⟩
              rw [show strB (([] : List Nat) ++ x) ++ (⟨#[58]⟩ : ByteArray) = strB (([] : List Nat) ++ x ++ [58]) from strB_append _ [58]]
              conv => whnf
              (refine CallVC.pure (hdg) rfl ?_; rintro _ rfl; conv => whnf)
              refine ⟨str_le (a := ([] : List Nat) ++ x ++ [58]) (b := dgs (c x)) (by simp only [List.length_append, List.length_cons, List.length_nil]; omega), ?_⟩
              rw [strB_append, show ([] : List Nat) ++ x ++ [58] ++ dgs (c x) = x ++ 58 :: dgs (c x) by simp]
              conv => whnf
              rw [e2]
              refine ⟨m + 1, [], [], ?_, by show m + 1 ≤ 7; omega, by show 7 - (m + 1) < 7 - m; omega⟩
              dsimp only
              rw [hsn]
              repeat' (first | exact trivial | exact .inl (DLe.refl _) | exact .inl (DLe.nil _ _) | (refine .inr ⟨rfl, _, ?_, rfl⟩; rfl) | exact rfl | exact .inl rfl | exact .inr ⟨rfl, rfl, rfl, rfl⟩ | exact Nat.zero_le _ | constructor)
            | cons t0 tr =>
              replace hsn : joinN [32] (tallyL c (kinds7.take (m + 1))) = joinN [32] (t0 :: tr) ++ 32 :: (x ++ 58 :: dgs (c x)) := hsn
              rw [decide_eq_false (fun e => by have := hTn.1 e; cases this)]
              generalize joinN [32] (t0 :: tr) = T at *
              conv => whnf
              refine ⟨str_le (a := T) (b := [32]) (by simp only [List.length_cons, List.length_nil]; omega), ?_⟩
              rw [show strB T ++ (⟨#[32]⟩ : ByteArray) = strB (T ++ [32]) from strB_append _ [32]]
              conv => whnf
              rw [u]
              conv => whnf
              refine ⟨str_le (a := (T ++ [32])) (b := x) (by simp only [List.length_append, List.length_cons, List.length_nil]; omega), ?_⟩
              rw [strB_append]
              conv => whnf
              refine ⟨str_le (a := (T ++ [32]) ++ x) (b := [58]) (by simp only [List.length_append, List.length_cons, List.length_nil]; omega), ?_⟩
              rw [show strB ((T ++ [32]) ++ x) ++ (⟨#[58]⟩ : ByteArray) = strB ((T ++ [32]) ++ x ++ [58]) from strB_append _ [58]]
              conv => whnf
              (refine CallVC.pure (hdg) rfl ?_; rintro _ rfl; conv => whnf)
              refine ⟨str_le (a := (T ++ [32]) ++ x ++ [58]) (b := dgs (c x)) (by simp only [List.length_append, List.length_cons, List.length_nil]; omega), ?_⟩
              rw [strB_append, show (T ++ [32]) ++ x ++ [58] ++ dgs (c x) = T ++ 32 :: (x ++ 58 :: dgs (c x)) by simp]
              conv => whnf
              rw [e2]
              refine ⟨m + 1, [], [], ?_, by show m + 1 ≤ 7; omega, by show 7 - (m + 1) < 7 - m; omega⟩
              dsimp only
              rw [hsn]
              repeat' (first | exact trivial | exact .inl (DLe.refl _) | exact .inl (DLe.nil _ _) | (refine .inr ⟨rfl, _, ?_, rfl⟩; rfl) | exact rfl | exact .inl rfl | exact .inr ⟨rfl, rfl, rfl, rfl⟩ | exact Nat.zero_le _ | constructor)
          · have u' : ¬ 0 < c x := by have := of_decide_eq_false u; omega
            rw [tally_neg u', show tallyL c [] = [] from rfl, List.append_nil] at hpre
            conv => whnf
            rw [u]
            conv => whnf
            rw [e2]
            refine ⟨m + 1, [], [], ?_, by show m + 1 ≤ 7; omega, by show 7 - (m + 1) < 7 - m; omega⟩
            dsimp only
            rw [hpre]
            repeat' (first | exact trivial | exact .inl (DLe.refl _) | exact .inl (DLe.nil _ _) | (refine .inr ⟨rfl, _, ?_, rfl⟩; rfl) | exact rfl | exact .inl rfl | exact .inr ⟨rfl, rfl, rfl, rfl⟩ | exact Nat.zero_le _ | constructor)
      · have r' : m = 7 := by have := of_decide_eq_false r; omega
        subst r'
        rw [List.take_of_length_le (l := kinds7) (i := 7) (Nat.le_refl _)]
        have hTj := join_lenM 15 (tallyL c kinds7) fun y hy => (hto y hy).2
        have hTb : Byt (joinN [32] (tallyL c kinds7)) := join_byt _ fun y hy => (hto y hy).1
        generalize joinN [32] (tallyL c kinds7) = T at *
        conv => whnf
        refine CallVC.look (FnN.of_flat htal fun d hd => by subst hd; rfl) rfl ?_
        rintro _ rfl
        conv => whnf
        rw [strB_beq hTb hTb, show decide (T = T) = true from decide_eq_true rfl]
        conv => whnf
        (refine CallVC.pure (hlv) rfl ?_; rintro _ rfl; conv => whnf)
  · have hst := hstop (.inl q)
    rw [hst]
    conv => whnf
    have hA : sntsOk ((L.take 20).map cutS) := fun y hy => by
      obtain ⟨z, hz, rfl⟩ := List.mem_map.1 hy
      exact ⟨(hL z (List.mem_of_mem_take hz)).take 400, by show (z.frame.take 400).length ≤ _; rw [List.length_take]; omega⟩
    have hAl : ((L.take 20).map cutS).length ≤ 20 := by rw [List.length_map, List.length_take]; omega
    generalize (L.take 20).map cutS = A at *
    have htal := tally_fn A hA hAl
    have hkl : (kindsOf A).length = A.length := List.length_map _
    unfold tallyT at htal
    generalize hc : (fun w => (kindsOf A).count w) = c at *
    have hcb : ∀ w, c w ≤ 20 := fun w => by
      rw [← hc]
      have := List.count_le_length (a := w) (l := kindsOf A)
      show (kindsOf A).count w ≤ 20
      omega
    have hto := tallyL_ok (c := c) (fun w => by have := hcb w; omega) word_len
    conv => whnf
    (refine ⟨Nat.le_of_ble_eq_true rfl, ?_⟩; conv => whnf)
    refine ⟨Nat, fun k => ⟨[(35, intD k), (34, intD (7 : Nat)), (33, rowsT kinds7), (6, strD (joinN [32] (tallyL c (kinds7.take k)))), (3, .grow 0)], [(0, .grow Snt 25 2 sntD A)], 1, ([], 0)⟩, fun k => k ≤ 7, fun k => 7 - k, ⟨0, [], [], ?_, Nat.zero_le _⟩, ?_⟩
    · repeat' (first | exact trivial | exact .inl (DLe.refl _) | exact .inl (DLe.nil _ _) | (refine .inr ⟨rfl, _, ?_, rfl⟩; rfl) | exact rfl | exact .inl rfl | exact .inr ⟨rfl, rfl, rfl, rfl⟩ | exact Nat.zero_le _ | constructor)
      exact litRows (L := kinds7) (enc := strE) fun y d hd => by simp [strE] at hd; subst hd; rfl
    intro m hm
    replace hm : m ≤ 7 := hm
    have e2 := wrapN (n := m) (by omega)
    conv => whnf
    refine Fork.intro (fun r => ?_) (fun r => ?_)
    · have r' : m < 7 := by have := of_decide_eq_true r; omega
      have h7 : kinds7.length = 7 := rfl
      obtain ⟨x, hx⟩ : ∃ x, kinds7[m]? = some x := ⟨_, List.getElem?_eq_getElem (by omega)⟩
      conv => whnf
      refine ⟨rfl, ⟨by omega, by omega⟩, fun y hy => ?_⟩
      obtain rfl : x = y := Option.some.inj (hx.symm.trans hy)
      conv => whnf
      refine ⟨Nat, fun i => ⟨[(35, intD m), (34, intD (7 : Nat)), (33, rowsT kinds7), (10, intD i), (9, intD (((kindsOf A).take i).count x : Nat)), (8, strD x), (6, strD (joinN [32] (tallyL c (kinds7.take m)))), (3, .grow 0)], [(0, .grow Snt 25 2 sntD A)], 1, ([], 0)⟩, fun i => i ≤ A.length, fun i => A.length - i, ⟨0, [], [], ?_, Nat.zero_le _⟩, ?_⟩
      · repeat' (first | exact trivial | exact .inl (DLe.refl _) | exact .inl (DLe.nil _ _) | (refine .inr ⟨rfl, _, ?_, rfl⟩; rfl) | exact rfl | exact .inl rfl | exact .inr ⟨rfl, rfl, rfl, rfl⟩ | exact Nat.zero_le _ | constructor)
      intro i hi
      replace hi : i ≤ A.length := hi
      have e3 := wrapN (n := i) (by omega)
      have hx7 : x ∈ kinds7 := List.mem_of_getElem? hx
      have hxw := word_len x hx7
      have hcx : c x = (kindsOf A).count x := by rw [← hc]
      have hci : ((kindsOf A).take i).count x ≤ i := by
        have h1 := List.count_le_length (a := x) (l := (kindsOf A).take i)
        rw [List.length_take] at h1
        omega
      conv => whnf
      refine Fork.intro (fun s => ?_) (fun s => ?_)
      · have s' : i < A.length := by have := of_decide_eq_true s; omega
        obtain ⟨f, hf⟩ : ∃ f, A[i]? = some f := ⟨_, List.getElem?_eq_getElem s'⟩
        have hki := rKind_fn f (hA f (List.mem_of_getElem? hf)).1 (hA f (List.mem_of_getElem? hf)).2
        have hkk := (word_len _ (kindFr_mem f.frame)).1
        have hcc : ((kindsOf A).take (i + 1)).count x = ((kindsOf A).take i).count x + (if kindFr f.frame = x then 1 else 0) := by
          rw [List.take_add_one, List.count_append]
          congr 1
          unfold kindsOf
          rw [List.getElem?_map, hf]
          show [kindFr f.frame].count x = _
          by_cases h : kindFr f.frame = x
          · rw [h]; simp
          · rw [if_neg h]; simp [h]
        conv => whnf
        refine ⟨rfl, ⟨by omega, by omega⟩, ?_⟩
        conv => whnf
        refine ⟨rfl, by show (Int.toNat (i : Int)) < _; omega, fun z hz => ?_⟩
        obtain rfl : f = z := Option.some.inj (hf.symm.trans hz)
        conv => whnf
        (refine CallVC.pure (hki) rfl ?_; rintro _ rfl; conv => whnf)
        rw [strB_beq hkk hxw.1]
        refine Fork.intro (fun s2 => ?_) (fun s2 => ?_)
        · have s2' : kindFr f.frame = x := of_decide_eq_true s2
          rw [if_pos s2'] at hcc
          have e4 := wrapN (n := ((kindsOf A).take i).count x) (by omega)
          conv => whnf
          rw [e4, e3, ← hcc]
          refine ⟨i + 1, [], [], ?_, by show i + 1 ≤ A.length; omega, by show A.length - (i + 1) < A.length - i; omega⟩
          repeat' (first | exact trivial | exact .inl (DLe.refl _) | exact .inl (DLe.nil _ _) | (refine .inr ⟨rfl, _, ?_, rfl⟩; rfl) | exact rfl | exact .inl rfl | exact .inr ⟨rfl, rfl, rfl, rfl⟩ | exact Nat.zero_le _ | constructor)
        · have s2' : ¬ kindFr f.frame = x := of_decide_eq_false s2
          replace hcc : ((kindsOf A).take (i + 1)).count x = ((kindsOf A).take i).count x := by rw [hcc, if_neg s2']; rfl
          conv => whnf
          rw [e3, ← hcc]
          refine ⟨i + 1, [], [], ?_, by show i + 1 ≤ A.length; omega, by show A.length - (i + 1) < A.length - i; omega⟩
          repeat' (first | exact trivial | exact .inl (DLe.refl _) | exact .inl (DLe.nil _ _) | (refine .inr ⟨rfl, _, ?_, rfl⟩; rfl) | exact rfl | exact .inl rfl | exact .inr ⟨rfl, rfl, rfl, rfl⟩ | exact Nat.zero_le _ | constructor)
      · have s' : i = A.length := by have := of_decide_eq_false s; omega
        subst s'
        rw [List.take_of_length_le (by omega), ← hcx]
        have hnext : kinds7.take (m + 1) = kinds7.take m ++ [x] := by rw [List.take_add_one, hx]; rfl
        have hpre := tally_app (c := c) x (kinds7.take m)
        rw [← hnext] at hpre
        have hT : ∀ y, y ∈ tallyL c (kinds7.take m) → Byt y ∧ y.length ≤ 15 := tallyL_ok (fun w => by have := hcb w; omega) fun w hw => word_len w (List.mem_of_mem_take hw)
        have hTl : (tallyL c (kinds7.take m)).length ≤ 7 := by
          have h1 := tallyL_len (c := c) (W := kinds7.take m)
          rw [List.length_take] at h1
          omega
        have hTj := join_lenM 15 _ fun y hy => (hT y hy).2
        have hTb : Byt (joinN [32] (tallyL c (kinds7.take m))) := join_byt _ fun y hy => (hT y hy).1
        have hTn := join_nil_iff (L := tallyL c (kinds7.take m)) tally_ne
        have hsn := join_snoc (tallyL c (kinds7.take m)) (x ++ 58 :: dgs (c x))
        have hcxb := hcb x
        have hdg := rNum_fn (c x) (by omega)
        have hdl := dgs_len 9 (c x) (by omega)
        generalize hL0 : tallyL c (kinds7.take m) = L0 at *
        conv => whnf
        refine Fork.intro (fun u => ?_) (fun u => ?_)
        · have u' : 0 < c x := by have := of_decide_eq_true u; omega
          rw [tally_pos u', show tallyL c [] = [] from rfl] at hpre
          rw [← hpre] at hsn
          conv => whnf
          rw [show (⟨#[]⟩ : ByteArray) = strB [] from rfl, strB_beq hTb .nil]
          cases L0 with
          | nil =>
            replace hsn : joinN [32] (tallyL c (kinds7.take (m + 1))) = x ++ 58 :: dgs (c x) := hsn
            rw [show joinN [32] [] = [] from rfl, show decide (([] : List Nat) = []) = true from rfl]
            conv => whnf
            rw [u]
            conv => whnf
            refine ⟨str_le (a := ([] : List Nat)) (b := x) (by simp only [List.length_append, List.length_cons, List.length_nil]; omega), ?_⟩
            rw [strB_append]
            conv => whnf
            refine ⟨str_le (a := ([] : List Nat) ++ x) (b := [58]) (by simp only [List.length_append, List.length_cons, List.length_nil]; omega), ?_⟩
            rw [show strB (([] : List Nat) ++ x) ++ (⟨#[58]⟩ : ByteArray) = strB (([] : List Nat) ++ x ++ [58]) from strB_append _ [58]]
            conv => whnf
            (refine CallVC.pure (hdg) rfl ?_; rintro _ rfl; conv => whnf)
            refine ⟨str_le (a := ([] : List Nat) ++ x ++ [58]) (b := dgs (c x)) (by simp only [List.length_append, List.length_cons, List.length_nil]; omega), ?_⟩
            rw [strB_append, show ([] : List Nat) ++ x ++ [58] ++ dgs (c x) = x ++ 58 :: dgs (c x) by simp]
            conv => whnf
            rw [e2]
            refine ⟨m + 1, [], [], ?_, by show m + 1 ≤ 7; omega, by show 7 - (m + 1) < 7 - m; omega⟩
            dsimp only
            rw [hsn]
            repeat' (first | exact trivial | exact .inl (DLe.refl _) | exact .inl (DLe.nil _ _) | (refine .inr ⟨rfl, _, ?_, rfl⟩; rfl) | exact rfl | exact .inl rfl | exact .inr ⟨rfl, rfl, rfl, rfl⟩ | exact Nat.zero_le _ | constructor)
          | cons t0 tr =>
            replace hsn : joinN [32] (tallyL c (kinds7.take (m + 1))) = joinN [32] (t0 :: tr) ++ 32 :: (x ++ 58 :: dgs (c x)) := hsn
            rw [decide_eq_false (fun e => by have := hTn.1 e; cases this)]
            generalize joinN [32] (t0 :: tr) = T at *
            conv => whnf
            refine ⟨str_le (a := T) (b := [32]) (by simp only [List.length_cons, List.length_nil]; omega), ?_⟩
            rw [show strB T ++ (⟨#[32]⟩ : ByteArray) = strB (T ++ [32]) from strB_append _ [32]]
            conv => whnf
            rw [u]
            conv => whnf
            refine ⟨str_le (a := (T ++ [32])) (b := x) (by simp only [List.length_append, List.length_cons, List.length_nil]; omega), ?_⟩
            rw [strB_append]
            conv => whnf
            refine ⟨str_le (a := (T ++ [32]) ++ x) (b := [58]) (by simp only [List.length_append, List.length_cons, List.length_nil]; omega), ?_⟩
            rw [show strB ((T ++ [32]) ++ x) ++ (⟨#[58]⟩ : ByteArray) = strB ((T ++ [32]) ++ x ++ [58]) from strB_append _ [58]]
            conv => whnf
            (refine CallVC.pure (hdg) rfl ?_; rintro _ rfl; conv => whnf)
            refine ⟨str_le (a := (T ++ [32]) ++ x ++ [58]) (b := dgs (c x)) (by simp only [List.length_append, List.length_cons, List.length_nil]; omega), ?_⟩
            rw [strB_append, show (T ++ [32]) ++ x ++ [58] ++ dgs (c x) = T ++ 32 :: (x ++ 58 :: dgs (c x)) by simp]
            conv => whnf
            rw [e2]
            refine ⟨m + 1, [], [], ?_, by show m + 1 ≤ 7; omega, by show 7 - (m + 1) < 7 - m; omega⟩
            dsimp only
            rw [hsn]
            repeat' (first | exact trivial | exact .inl (DLe.refl _) | exact .inl (DLe.nil _ _) | (refine .inr ⟨rfl, _, ?_, rfl⟩; rfl) | exact rfl | exact .inl rfl | exact .inr ⟨rfl, rfl, rfl, rfl⟩ | exact Nat.zero_le _ | constructor)
        · have u' : ¬ 0 < c x := by have := of_decide_eq_false u; omega
          rw [tally_neg u', show tallyL c [] = [] from rfl, List.append_nil] at hpre
          conv => whnf
          rw [u]
          conv => whnf
          rw [e2]
          refine ⟨m + 1, [], [], ?_, by show m + 1 ≤ 7; omega, by show 7 - (m + 1) < 7 - m; omega⟩
          dsimp only
          rw [hpre]
          repeat' (first | exact trivial | exact .inl (DLe.refl _) | exact .inl (DLe.nil _ _) | (refine .inr ⟨rfl, _, ?_, rfl⟩; rfl) | exact rfl | exact .inl rfl | exact .inr ⟨rfl, rfl, rfl, rfl⟩ | exact Nat.zero_le _ | constructor)
    · have r' : m = 7 := by have := of_decide_eq_false r; omega
      subst r'
      rw [List.take_of_length_le (l := kinds7) (i := 7) (Nat.le_refl _)]
      have hTj := join_lenM 15 (tallyL c kinds7) fun y hy => (hto y hy).2
      have hTb : Byt (joinN [32] (tallyL c kinds7)) := join_byt _ fun y hy => (hto y hy).1
      generalize joinN [32] (tallyL c kinds7) = T at *
      conv => whnf
      refine CallVC.look (FnN.of_flat htal fun d hd => by subst hd; rfl) rfl ?_
      rintro _ rfl
      conv => whnf
      rw [strB_beq hTb hTb, show decide (T = T) = true from decide_eq_true rfl]
      conv => whnf
      (refine CallVC.pure (hlv) rfl ?_; rintro _ rfl; conv => whnf)
end Go.Proofs.YtgodclgcfpmloaaGreatDoor.V
