/-
  Ethernet addresses read by the document, by value. Conditions: none but that the text is one of bytes.
-/
import Derived.Test.YtbhmnloklpdmiaaDoorAj
namespace Go.Proofs.YtbhmnloklpdmiaaDoor.V
open Go.RowKit
attribute [local irreducible] Fn FnN OpVC

def macRes : Option (List Nat) → D
  | some m => .tup [.agg (macD m), intD 0]
  | none => .tup [.agg (macD zero6), intD 3]
theorem list17 {l : List Nat} (h : l.length = 17) : ∃ c0 c1 c2 c3 c4 c5 c6 c7 c8 c9 c10 c11 c12 c13 c14 c15 c16, l = [c0, c1, c2, c3, c4, c5, c6, c7, c8, c9, c10, c11, c12, c13, c14, c15, c16] := by
  match l, h with
  | [c0, c1, c2, c3, c4, c5, c6, c7, c8, c9, c10, c11, c12, c13, c14, c15, c16], _ => exact ⟨c0, c1, c2, c3, c4, c5, c6, c7, c8, c9, c10, c11, c12, c13, c14, c15, c16, rfl⟩
theorem rMac_no {l : List Nat} {t : Nat} (ht : t < 17) (h : okAt l t = false) : rMac l = none := by
  unfold rMac
  rw [show (List.range 17).all (okAt l) = false from Bool.eq_false_iff.2 fun e => by
    rw [List.all_eq_true] at e
    have := e t (List.mem_range.2 ht)
    rw [h] at this; cases this]
  rw [Bool.and_false]
theorem rMac_yes {l : List Nat} (hl : l.length = 17) (h : ∀ t, t < 17 → okAt l t = true) : rMac l = some (moL l 17) := by
  unfold rMac
  rw [decide_eq_true hl, List.all_eq_true.2 fun t ht => h t (List.mem_range.1 ht)]
  rfl
theorem rMac_len {l : List Nat} (hl : ¬ l.length = 17) : rMac l = none := by
  unfold rMac
  rw [decide_eq_false hl]
  rfl
theorem ok_next {l : List Nat} {i : Nat} (h : ∀ t, t < i → okAt l t = true) (hi : okAt l i = true) : ∀ t, t < i + 1 → okAt l t = true := fun t ht => by
  rcases Nat.lt_succ_iff_lt_or_eq.1 ht with h1 | rfl
  · exact h t h1
  · exact hi
theorem unhex_no {c : Nat} (h : ∀ n, n < 16 → hx n ≠ c) : unhex c = none := by
  cases hq : unhex c with
  | none => rfl
  | some k => exact absurd (unhex_some hq).2.symm (h k (unhex_some hq).1)
theorem figure_ne {n c : Nat} (hn : n < 16) (hc : c < 256) : (!((strB [hx n]).toList == (strB [c]).toList)) = !decide (hx n = c) := by
  rw [strB_beq (.cons (by have := hx_lt hn; omega) .nil) (.cons hc .nil)]
  by_cases h : hx n = c
  · rw [h]; simp
  · rw [decide_eq_false h, decide_eq_false (by intro e; injection e with e; exact h e)]
theorem u8_app (x n : Nat) (hx : x < 16) (hn : n < 16) : IntKind.u8.wrap (IntKind.u8.wrap ((x : Int) * 16) + IntKind.u8.wrap (n : Int)) = ((x * 16 + n : Nat) : Int) := by
  rw [u8_small (n := (n : Int)) (by omega), u8_small (n := (x : Int) * 16) (by omega), u8_small (by omega)]; omega
theorem u8_app0 (n : Nat) (hn : n < 16) : IntKind.u8.wrap (IntKind.u8.wrap (((0 : Nat) : Int) * 16) + IntKind.u8.wrap (n : Int)) = ((n : Nat) : Int) := by
  rw [u8_app 0 n (by decide) hn]; omega
theorem str_at {l : List Nat} {i c : Nat} (h : l[i]? = some c) : (strB l).extract i (i + 1) = strB [c] := by
  rw [strB_extract]
  congr 1
  obtain ⟨hi, rfl⟩ := List.getElem?_eq_some_iff.1 h
  rw [List.take_add_one, List.drop_append_of_le_length (by rw [List.length_take]; omega)]
  rw [List.drop_of_length_le (by rw [List.length_take]; omega), List.getElem?_eq_getElem hi]
  rfl

set_option maxHeartbeats 8000000 in
theorem rparsemac_fn (l : List Nat) (hl : Byt l) : Fn Tryd.prog 14 [strD l] fun d => d = macRes (rMac l) := by
  refine fnOf [(11, [0, 1, 2, 3, 6, 7, 8, 9, 10, 4, 5, 11, 12])] Tryd.func14 rfl (by kernel_rfl) (Nat.le_of_ble_eq_true rfl) ?_
  have hsz : ((strB l).size : Int) = (l.length : Int) := by rw [strB_size]
  conv => whnf
  rw [hsz]
  cases g17 : decide ((l.length : Int) = 17) with
  | false =>
    rw [rMac_len (by have := of_decide_eq_false g17; omega)]
    conv => whnf
    rfl
  | true =>
  have hl17 : l.length = 17 := by have := of_decide_eq_true g17; omega
  clear hsz g17
  obtain ⟨c0, c1, c2, c3, c4, c5, c6, c7, c8, c9, c10, c11, c12, c13, c14, c15, c16, rfl⟩ := list17 hl17
  conv => whnf
  refine ⟨Nat, fun i => ⟨[(5, intD i), (4, .loc 1 0), (2, .loc 0 0), (0, strD [c0, c1, c2, c3, c4, c5, c6, c7, c8, c9, c10, c11, c12, c13, c14, c15, c16])], [(1, .cells 33 (macD (moL [c0, c1, c2, c3, c4, c5, c6, c7, c8, c9, c10, c11, c12, c13, c14, c15, c16] i))), (0, .cells 33 (macD zero6))], 2, ([], 0)⟩,
    fun i => i ≤ 17 ∧ ∀ t, t < i → okAt [c0, c1, c2, c3, c4, c5, c6, c7, c8, c9, c10, c11, c12, c13, c14, c15, c16] t = true, fun i => 17 - i, ⟨0, [], [], ?_, Nat.zero_le _, fun t h => absurd h (Nat.not_lt_zero _)⟩, ?_⟩
  · repeat' (first | exact trivial | exact .inl (DLe.refl _) | exact .inl (DLe.nil _ _) | (refine .inr ⟨rfl, _, ?_, rfl⟩; rfl) | exact rfl | exact Nat.zero_le _ | constructor)
  · rintro i ⟨hi, hok⟩
    rcases (by omega : i = 0 ∨ i = 1 ∨ i = 2 ∨ i = 3 ∨ i = 4 ∨ i = 5 ∨ i = 6 ∨ i = 7 ∨ i = 8 ∨ i = 9 ∨ i = 10 ∨ i = 11 ∨ i = 12 ∨ i = 13 ∨ i = 14 ∨ i = 15 ∨ i = 16 ∨ i = 17) with rfl | rfl | rfl | rfl | rfl | rfl | rfl | rfl | rfl | rfl | rfl | rfl | rfl | rfl | rfl | rfl | rfl | rfl
    · have hci : c0 < 256 := hl.get (n := 0) rfl
      have hstep : okAt [c0, c1, c2, c3, c4, c5, c6, c7, c8, c9, c10, c11, c12, c13, c14, c15, c16] 0 = true → ∀ t, t < 1 → okAt [c0, c1, c2, c3, c4, c5, c6, c7, c8, c9, c10, c11, c12, c13, c14, c15, c16] t = true := ok_next hok
      have hno : okAt [c0, c1, c2, c3, c4, c5, c6, c7, c8, c9, c10, c11, c12, c13, c14, c15, c16] 0 = false → rMac [c0, c1, c2, c3, c4, c5, c6, c7, c8, c9, c10, c11, c12, c13, c14, c15, c16] = none := rMac_no (by decide)
      dsimp only
      rw [show moL [c0, c1, c2, c3, c4, c5, c6, c7, c8, c9, c10, c11, c12, c13, c14, c15, c16] 0 = [0, 0, 0, 0, 0, 0] from rfl]
      conv => whnf
      refine ⟨by decide, ?_⟩
      conv => whnf
      refine ⟨Nat, fun n => ⟨[(6, intD n), (5, intD (0 : Nat)), (4, .loc 1 0), (2, .loc 0 0), (0, strD [c0, c1, c2, c3, c4, c5, c6, c7, c8, c9, c10, c11, c12, c13, c14, c15, c16])], [(1, .cells 33 (macD [0, 0, 0, 0, 0, 0])), (0, .cells 33 (macD zero6))], 2, ([], 0)⟩,
        fun n => n ≤ 16 ∧ ∀ k, k < n → hx k ≠ c0, fun n => 16 - n, ⟨0, [], [], ?_, Nat.zero_le _, fun k h => absurd h (Nat.not_lt_zero _)⟩, ?_⟩
      · repeat' (first | exact trivial | exact .inl (DLe.refl _) | exact .inl (DLe.nil _ _) | (refine .inr ⟨rfl, _, ?_, rfl⟩; rfl) | exact rfl | exact Nat.zero_le _ | constructor)
      rintro n ⟨hn, hnot⟩
      have hn : n ≤ 16 := hn
      by_cases h16 : n < 16
      · have hf := figure_at n h16 (x := IntKind.u8.wrap (n : Int)) (u8_small (by omega))
        have hn := h16
        conv => whnf
        refine Fork.intro (fun g => ?_) (fun g => absurd (of_decide_eq_false g) (by omega))
        conv => whnf
        refine ⟨⟨by decide, by decide, by rw [strB_size]; show _ ≤ ((17 : Nat) : Int); decide⟩, ?_⟩
        rw [show (strB [c0, c1, c2, c3, c4, c5, c6, c7, c8, c9, c10, c11, c12, c13, c14, c15, c16]).extract ((0 : Nat) : Int).toNat (IntKind.i64.wrap (((0 : Nat) : Int) + 1)).toNat = strB [c0] from str_at (i := 0) rfl]
        conv => whnf
        refine CallVC.pure hf rfl ?_
        rintro _ rfl
        conv => whnf
        rw [figure_ne h16 hci]
        cases gx : decide (hx n = c0) with
        | false =>
          have hne : hx n ≠ c0 := of_decide_eq_false gx
          conv => whnf
          rw [wrap_next (n := 17) (by omega) (by decide)]
          refine ⟨n + 1, [], [], ?_, ⟨h16, fun k hk => ?_⟩, by show 16 - (n + 1) < 16 - n; omega⟩
          · repeat' (first | exact trivial | exact .inl (DLe.refl _) | exact .inl (DLe.nil _ _) | (refine .inr ⟨rfl, _, ?_, rfl⟩; rfl) | exact rfl | exact Nat.zero_le _ | constructor)
          · rcases Nat.lt_succ_iff_lt_or_eq.1 hk with h1 | rfl
            · exact hnot k h1
            · exact hne
        | true =>
          have hu : unhex c0 = some n := by rw [← of_decide_eq_true gx]; exact unhex_hx h16
          have huh : uh c0 = n := by unfold uh; rw [hu]; rfl
  
          conv => whnf
          cases g16 : decide ((n : Int) = 16) with
          | true => exact absurd (of_decide_eq_true g16) (by omega)
          | false =>
          conv => whnf
          refine ⟨by decide, ?_⟩
          conv => whnf
          refine ⟨by decide, ?_⟩
          conv => whnf
          refine ⟨by decide, ?_⟩
          conv => whnf
          refine ⟨by decide, ?_⟩
          conv => whnf
          rw [u8_app0 n hn]
          refine ⟨1, [], [], ?_, ⟨by decide, hstep (by show (unhex c0).isSome = true; rw [hu]; rfl)⟩, by decide⟩
          dsimp only
          rw [show moL [c0, c1, c2, c3, c4, c5, c6, c7, c8, c9, c10, c11, c12, c13, c14, c15, c16] 1 = [uh c0, 0, 0, 0, 0, 0] from rfl, huh]
          repeat' (first | exact trivial | exact .inl (DLe.refl _) | exact .inl (DLe.nil _ _) | (refine .inr ⟨rfl, _, ?_, rfl⟩; rfl) | exact rfl | exact Nat.zero_le _ | constructor)
      · obtain rfl : n = 16 := by omega
        have hu : unhex c0 = none := unhex_no hnot
        rw [hno (by show (unhex c0).isSome = false; rw [hu]; rfl)]
        conv => whnf
        rfl
    · have hci : c1 < 256 := hl.get (n := 1) rfl
      have hstep : okAt [c0, c1, c2, c3, c4, c5, c6, c7, c8, c9, c10, c11, c12, c13, c14, c15, c16] 1 = true → ∀ t, t < 2 → okAt [c0, c1, c2, c3, c4, c5, c6, c7, c8, c9, c10, c11, c12, c13, c14, c15, c16] t = true := ok_next hok
      have hno : okAt [c0, c1, c2, c3, c4, c5, c6, c7, c8, c9, c10, c11, c12, c13, c14, c15, c16] 1 = false → rMac [c0, c1, c2, c3, c4, c5, c6, c7, c8, c9, c10, c11, c12, c13, c14, c15, c16] = none := rMac_no (by decide)
      dsimp only
      rw [show moL [c0, c1, c2, c3, c4, c5, c6, c7, c8, c9, c10, c11, c12, c13, c14, c15, c16] 1 = [uh c0, 0, 0, 0, 0, 0] from rfl]
      conv => whnf
      refine ⟨by decide, ?_⟩
      conv => whnf
      refine ⟨Nat, fun n => ⟨[(6, intD n), (5, intD (1 : Nat)), (4, .loc 1 0), (2, .loc 0 0), (0, strD [c0, c1, c2, c3, c4, c5, c6, c7, c8, c9, c10, c11, c12, c13, c14, c15, c16])], [(1, .cells 33 (macD [uh c0, 0, 0, 0, 0, 0])), (0, .cells 33 (macD zero6))], 2, ([], 0)⟩,
        fun n => n ≤ 16 ∧ ∀ k, k < n → hx k ≠ c1, fun n => 16 - n, ⟨0, [], [], ?_, Nat.zero_le _, fun k h => absurd h (Nat.not_lt_zero _)⟩, ?_⟩
      · repeat' (first | exact trivial | exact .inl (DLe.refl _) | exact .inl (DLe.nil _ _) | (refine .inr ⟨rfl, _, ?_, rfl⟩; rfl) | exact rfl | exact Nat.zero_le _ | constructor)
      rintro n ⟨hn, hnot⟩
      have hn : n ≤ 16 := hn
      by_cases h16 : n < 16
      · have hf := figure_at n h16 (x := IntKind.u8.wrap (n : Int)) (u8_small (by omega))
        have hn := h16
        conv => whnf
        refine Fork.intro (fun g => ?_) (fun g => absurd (of_decide_eq_false g) (by omega))
        conv => whnf
        refine ⟨⟨by decide, by decide, by rw [strB_size]; show _ ≤ ((17 : Nat) : Int); decide⟩, ?_⟩
        rw [show (strB [c0, c1, c2, c3, c4, c5, c6, c7, c8, c9, c10, c11, c12, c13, c14, c15, c16]).extract ((1 : Nat) : Int).toNat (IntKind.i64.wrap (((1 : Nat) : Int) + 1)).toNat = strB [c1] from str_at (i := 1) rfl]
        conv => whnf
        refine CallVC.pure hf rfl ?_
        rintro _ rfl
        conv => whnf
        rw [figure_ne h16 hci]
        cases gx : decide (hx n = c1) with
        | false =>
          have hne : hx n ≠ c1 := of_decide_eq_false gx
          conv => whnf
          rw [wrap_next (n := 17) (by omega) (by decide)]
          refine ⟨n + 1, [], [], ?_, ⟨h16, fun k hk => ?_⟩, by show 16 - (n + 1) < 16 - n; omega⟩
          · repeat' (first | exact trivial | exact .inl (DLe.refl _) | exact .inl (DLe.nil _ _) | (refine .inr ⟨rfl, _, ?_, rfl⟩; rfl) | exact rfl | exact Nat.zero_le _ | constructor)
          · rcases Nat.lt_succ_iff_lt_or_eq.1 hk with h1 | rfl
            · exact hnot k h1
            · exact hne
        | true =>
          have hu : unhex c1 = some n := by rw [← of_decide_eq_true gx]; exact unhex_hx h16
          have huh : uh c1 = n := by unfold uh; rw [hu]; rfl
          have hu0 : uh c0 < 16 := by
            have h9 := hok 0 (by decide)
            have h9 : (unhex c0).isSome = true := h9
            cases h8 : unhex c0 with
            | none => rw [h8] at h9; cases h9
            | some k => unfold uh; rw [h8]; exact (unhex_some h8).1

          conv => whnf
          cases g16 : decide ((n : Int) = 16) with
          | true => exact absurd (of_decide_eq_true g16) (by omega)
          | false =>
          conv => whnf
          refine ⟨by decide, ?_⟩
          conv => whnf
          refine ⟨by decide, ?_⟩
          conv => whnf
          refine ⟨by decide, ?_⟩
          conv => whnf
          refine ⟨by decide, ?_⟩
          conv => whnf
          rw [u8_app (uh c0) n hu0 hn]
          refine ⟨2, [], [], ?_, ⟨by decide, hstep (by show (unhex c1).isSome = true; rw [hu]; rfl)⟩, by decide⟩
          dsimp only
          rw [show moL [c0, c1, c2, c3, c4, c5, c6, c7, c8, c9, c10, c11, c12, c13, c14, c15, c16] 2 = [uh c0 * 16 + uh c1, 0, 0, 0, 0, 0] from rfl, huh]
          repeat' (first | exact trivial | exact .inl (DLe.refl _) | exact .inl (DLe.nil _ _) | (refine .inr ⟨rfl, _, ?_, rfl⟩; rfl) | exact rfl | exact Nat.zero_le _ | constructor)
      · obtain rfl : n = 16 := by omega
        have hu : unhex c1 = none := unhex_no hnot
        rw [hno (by show (unhex c1).isSome = false; rw [hu]; rfl)]
        conv => whnf
        rfl
    · have hci : c2 < 256 := hl.get (n := 2) rfl
      have hstep : okAt [c0, c1, c2, c3, c4, c5, c6, c7, c8, c9, c10, c11, c12, c13, c14, c15, c16] 2 = true → ∀ t, t < 3 → okAt [c0, c1, c2, c3, c4, c5, c6, c7, c8, c9, c10, c11, c12, c13, c14, c15, c16] t = true := ok_next hok
      have hno : okAt [c0, c1, c2, c3, c4, c5, c6, c7, c8, c9, c10, c11, c12, c13, c14, c15, c16] 2 = false → rMac [c0, c1, c2, c3, c4, c5, c6, c7, c8, c9, c10, c11, c12, c13, c14, c15, c16] = none := rMac_no (by decide)
      dsimp only
      rw [show moL [c0, c1, c2, c3, c4, c5, c6, c7, c8, c9, c10, c11, c12, c13, c14, c15, c16] 2 = [uh c0 * 16 + uh c1, 0, 0, 0, 0, 0] from rfl]
      conv => whnf
      refine ⟨by decide, ?_⟩
      conv => whnf
      refine ⟨⟨by decide, by rw [strB_size]; show _ < ((17 : Nat) : Int); decide⟩, fun b hb => ?_⟩
      have hb := strB_get hl hb
      have hb : some c2 = some b.toNat := hb
      injection hb with hb
      rw [← hb]
      conv => whnf
      cases g : decide ((c2 : Int) = 58) with
      | true =>
        have he : c2 = 58 := by have := of_decide_eq_true g; omega
        conv => whnf
        refine ⟨3, [], [], ?_, ⟨by decide, hstep (decide_eq_true he)⟩, by decide⟩
        rw [show moL [c0, c1, c2, c3, c4, c5, c6, c7, c8, c9, c10, c11, c12, c13, c14, c15, c16] 3 = [uh c0 * 16 + uh c1, 0, 0, 0, 0, 0] from rfl]
        repeat' (first | exact trivial | exact .inl (DLe.refl _) | exact .inl (DLe.nil _ _) | (refine .inr ⟨rfl, _, ?_, rfl⟩; rfl) | exact rfl | exact Nat.zero_le _ | constructor)
      | false =>
        rw [hno (decide_eq_false (by have := of_decide_eq_false g; intro e; exact this (by rw [show c2 = 58 from e]; rfl)))]
        conv => whnf
        rfl
    · have hci : c3 < 256 := hl.get (n := 3) rfl
      have hstep : okAt [c0, c1, c2, c3, c4, c5, c6, c7, c8, c9, c10, c11, c12, c13, c14, c15, c16] 3 = true → ∀ t, t < 4 → okAt [c0, c1, c2, c3, c4, c5, c6, c7, c8, c9, c10, c11, c12, c13, c14, c15, c16] t = true := ok_next hok
      have hno : okAt [c0, c1, c2, c3, c4, c5, c6, c7, c8, c9, c10, c11, c12, c13, c14, c15, c16] 3 = false → rMac [c0, c1, c2, c3, c4, c5, c6, c7, c8, c9, c10, c11, c12, c13, c14, c15, c16] = none := rMac_no (by decide)
      dsimp only
      rw [show moL [c0, c1, c2, c3, c4, c5, c6, c7, c8, c9, c10, c11, c12, c13, c14, c15, c16] 3 = [uh c0 * 16 + uh c1, 0, 0, 0, 0, 0] from rfl]
      conv => whnf
      refine ⟨by decide, ?_⟩
      conv => whnf
      refine ⟨Nat, fun n => ⟨[(6, intD n), (5, intD (3 : Nat)), (4, .loc 1 0), (2, .loc 0 0), (0, strD [c0, c1, c2, c3, c4, c5, c6, c7, c8, c9, c10, c11, c12, c13, c14, c15, c16])], [(1, .cells 33 (macD [uh c0 * 16 + uh c1, 0, 0, 0, 0, 0])), (0, .cells 33 (macD zero6))], 2, ([], 0)⟩,
        fun n => n ≤ 16 ∧ ∀ k, k < n → hx k ≠ c3, fun n => 16 - n, ⟨0, [], [], ?_, Nat.zero_le _, fun k h => absurd h (Nat.not_lt_zero _)⟩, ?_⟩
      · repeat' (first | exact trivial | exact .inl (DLe.refl _) | exact .inl (DLe.nil _ _) | (refine .inr ⟨rfl, _, ?_, rfl⟩; rfl) | exact rfl | exact Nat.zero_le _ | constructor)
      rintro n ⟨hn, hnot⟩
      have hn : n ≤ 16 := hn
      by_cases h16 : n < 16
      · have hf := figure_at n h16 (x := IntKind.u8.wrap (n : Int)) (u8_small (by omega))
        have hn := h16
        conv => whnf
        refine Fork.intro (fun g => ?_) (fun g => absurd (of_decide_eq_false g) (by omega))
        conv => whnf
        refine ⟨⟨by decide, by decide, by rw [strB_size]; show _ ≤ ((17 : Nat) : Int); decide⟩, ?_⟩
        rw [show (strB [c0, c1, c2, c3, c4, c5, c6, c7, c8, c9, c10, c11, c12, c13, c14, c15, c16]).extract ((3 : Nat) : Int).toNat (IntKind.i64.wrap (((3 : Nat) : Int) + 1)).toNat = strB [c3] from str_at (i := 3) rfl]
        conv => whnf
        refine CallVC.pure hf rfl ?_
        rintro _ rfl
        conv => whnf
        rw [figure_ne h16 hci]
        cases gx : decide (hx n = c3) with
        | false =>
          have hne : hx n ≠ c3 := of_decide_eq_false gx
          conv => whnf
          rw [wrap_next (n := 17) (by omega) (by decide)]
          refine ⟨n + 1, [], [], ?_, ⟨h16, fun k hk => ?_⟩, by show 16 - (n + 1) < 16 - n; omega⟩
          · repeat' (first | exact trivial | exact .inl (DLe.refl _) | exact .inl (DLe.nil _ _) | (refine .inr ⟨rfl, _, ?_, rfl⟩; rfl) | exact rfl | exact Nat.zero_le _ | constructor)
          · rcases Nat.lt_succ_iff_lt_or_eq.1 hk with h1 | rfl
            · exact hnot k h1
            · exact hne
        | true =>
          have hu : unhex c3 = some n := by rw [← of_decide_eq_true gx]; exact unhex_hx h16
          have huh : uh c3 = n := by unfold uh; rw [hu]; rfl
  
          conv => whnf
          cases g16 : decide ((n : Int) = 16) with
          | true => exact absurd (of_decide_eq_true g16) (by omega)
          | false =>
          conv => whnf
          refine ⟨by decide, ?_⟩
          conv => whnf
          refine ⟨by decide, ?_⟩
          conv => whnf
          refine ⟨by decide, ?_⟩
          conv => whnf
          refine ⟨by decide, ?_⟩
          conv => whnf
          rw [u8_app0 n hn]
          refine ⟨4, [], [], ?_, ⟨by decide, hstep (by show (unhex c3).isSome = true; rw [hu]; rfl)⟩, by decide⟩
          dsimp only
          rw [show moL [c0, c1, c2, c3, c4, c5, c6, c7, c8, c9, c10, c11, c12, c13, c14, c15, c16] 4 = [uh c0 * 16 + uh c1, uh c3, 0, 0, 0, 0] from rfl, huh]
          repeat' (first | exact trivial | exact .inl (DLe.refl _) | exact .inl (DLe.nil _ _) | (refine .inr ⟨rfl, _, ?_, rfl⟩; rfl) | exact rfl | exact Nat.zero_le _ | constructor)
      · obtain rfl : n = 16 := by omega
        have hu : unhex c3 = none := unhex_no hnot
        rw [hno (by show (unhex c3).isSome = false; rw [hu]; rfl)]
        conv => whnf
        rfl
    · have hci : c4 < 256 := hl.get (n := 4) rfl
      have hstep : okAt [c0, c1, c2, c3, c4, c5, c6, c7, c8, c9, c10, c11, c12, c13, c14, c15, c16] 4 = true → ∀ t, t < 5 → okAt [c0, c1, c2, c3, c4, c5, c6, c7, c8, c9, c10, c11, c12, c13, c14, c15, c16] t = true := ok_next hok
      have hno : okAt [c0, c1, c2, c3, c4, c5, c6, c7, c8, c9, c10, c11, c12, c13, c14, c15, c16] 4 = false → rMac [c0, c1, c2, c3, c4, c5, c6, c7, c8, c9, c10, c11, c12, c13, c14, c15, c16] = none := rMac_no (by decide)
      dsimp only
      rw [show moL [c0, c1, c2, c3, c4, c5, c6, c7, c8, c9, c10, c11, c12, c13, c14, c15, c16] 4 = [uh c0 * 16 + uh c1, uh c3, 0, 0, 0, 0] from rfl]
      conv => whnf
      refine ⟨by decide, ?_⟩
      conv => whnf
      refine ⟨Nat, fun n => ⟨[(6, intD n), (5, intD (4 : Nat)), (4, .loc 1 0), (2, .loc 0 0), (0, strD [c0, c1, c2, c3, c4, c5, c6, c7, c8, c9, c10, c11, c12, c13, c14, c15, c16])], [(1, .cells 33 (macD [uh c0 * 16 + uh c1, uh c3, 0, 0, 0, 0])), (0, .cells 33 (macD zero6))], 2, ([], 0)⟩,
        fun n => n ≤ 16 ∧ ∀ k, k < n → hx k ≠ c4, fun n => 16 - n, ⟨0, [], [], ?_, Nat.zero_le _, fun k h => absurd h (Nat.not_lt_zero _)⟩, ?_⟩
      · repeat' (first | exact trivial | exact .inl (DLe.refl _) | exact .inl (DLe.nil _ _) | (refine .inr ⟨rfl, _, ?_, rfl⟩; rfl) | exact rfl | exact Nat.zero_le _ | constructor)
      rintro n ⟨hn, hnot⟩
      have hn : n ≤ 16 := hn
      by_cases h16 : n < 16
      · have hf := figure_at n h16 (x := IntKind.u8.wrap (n : Int)) (u8_small (by omega))
        have hn := h16
        conv => whnf
        refine Fork.intro (fun g => ?_) (fun g => absurd (of_decide_eq_false g) (by omega))
        conv => whnf
        refine ⟨⟨by decide, by decide, by rw [strB_size]; show _ ≤ ((17 : Nat) : Int); decide⟩, ?_⟩
        rw [show (strB [c0, c1, c2, c3, c4, c5, c6, c7, c8, c9, c10, c11, c12, c13, c14, c15, c16]).extract ((4 : Nat) : Int).toNat (IntKind.i64.wrap (((4 : Nat) : Int) + 1)).toNat = strB [c4] from str_at (i := 4) rfl]
        conv => whnf
        refine CallVC.pure hf rfl ?_
        rintro _ rfl
        conv => whnf
        rw [figure_ne h16 hci]
        cases gx : decide (hx n = c4) with
        | false =>
          have hne : hx n ≠ c4 := of_decide_eq_false gx
          conv => whnf
          rw [wrap_next (n := 17) (by omega) (by decide)]
          refine ⟨n + 1, [], [], ?_, ⟨h16, fun k hk => ?_⟩, by show 16 - (n + 1) < 16 - n; omega⟩
          · repeat' (first | exact trivial | exact .inl (DLe.refl _) | exact .inl (DLe.nil _ _) | (refine .inr ⟨rfl, _, ?_, rfl⟩; rfl) | exact rfl | exact Nat.zero_le _ | constructor)
          · rcases Nat.lt_succ_iff_lt_or_eq.1 hk with h1 | rfl
            · exact hnot k h1
            · exact hne
        | true =>
          have hu : unhex c4 = some n := by rw [← of_decide_eq_true gx]; exact unhex_hx h16
          have huh : uh c4 = n := by unfold uh; rw [hu]; rfl
          have hu0 : uh c3 < 16 := by
            have h9 := hok 3 (by decide)
            have h9 : (unhex c3).isSome = true := h9
            cases h8 : unhex c3 with
            | none => rw [h8] at h9; cases h9
            | some k => unfold uh; rw [h8]; exact (unhex_some h8).1

          conv => whnf
          cases g16 : decide ((n : Int) = 16) with
          | true => exact absurd (of_decide_eq_true g16) (by omega)
          | false =>
          conv => whnf
          refine ⟨by decide, ?_⟩
          conv => whnf
          refine ⟨by decide, ?_⟩
          conv => whnf
          refine ⟨by decide, ?_⟩
          conv => whnf
          refine ⟨by decide, ?_⟩
          conv => whnf
          rw [u8_app (uh c3) n hu0 hn]
          refine ⟨5, [], [], ?_, ⟨by decide, hstep (by show (unhex c4).isSome = true; rw [hu]; rfl)⟩, by decide⟩
          dsimp only
          rw [show moL [c0, c1, c2, c3, c4, c5, c6, c7, c8, c9, c10, c11, c12, c13, c14, c15, c16] 5 = [uh c0 * 16 + uh c1, uh c3 * 16 + uh c4, 0, 0, 0, 0] from rfl, huh]
          repeat' (first | exact trivial | exact .inl (DLe.refl _) | exact .inl (DLe.nil _ _) | (refine .inr ⟨rfl, _, ?_, rfl⟩; rfl) | exact rfl | exact Nat.zero_le _ | constructor)
      · obtain rfl : n = 16 := by omega
        have hu : unhex c4 = none := unhex_no hnot
        rw [hno (by show (unhex c4).isSome = false; rw [hu]; rfl)]
        conv => whnf
        rfl
    · have hci : c5 < 256 := hl.get (n := 5) rfl
      have hstep : okAt [c0, c1, c2, c3, c4, c5, c6, c7, c8, c9, c10, c11, c12, c13, c14, c15, c16] 5 = true → ∀ t, t < 6 → okAt [c0, c1, c2, c3, c4, c5, c6, c7, c8, c9, c10, c11, c12, c13, c14, c15, c16] t = true := ok_next hok
      have hno : okAt [c0, c1, c2, c3, c4, c5, c6, c7, c8, c9, c10, c11, c12, c13, c14, c15, c16] 5 = false → rMac [c0, c1, c2, c3, c4, c5, c6, c7, c8, c9, c10, c11, c12, c13, c14, c15, c16] = none := rMac_no (by decide)
      dsimp only
      rw [show moL [c0, c1, c2, c3, c4, c5, c6, c7, c8, c9, c10, c11, c12, c13, c14, c15, c16] 5 = [uh c0 * 16 + uh c1, uh c3 * 16 + uh c4, 0, 0, 0, 0] from rfl]
      conv => whnf
      refine ⟨by decide, ?_⟩
      conv => whnf
      refine ⟨⟨by decide, by rw [strB_size]; show _ < ((17 : Nat) : Int); decide⟩, fun b hb => ?_⟩
      have hb := strB_get hl hb
      have hb : some c5 = some b.toNat := hb
      injection hb with hb
      rw [← hb]
      conv => whnf
      cases g : decide ((c5 : Int) = 58) with
      | true =>
        have he : c5 = 58 := by have := of_decide_eq_true g; omega
        conv => whnf
        refine ⟨6, [], [], ?_, ⟨by decide, hstep (decide_eq_true he)⟩, by decide⟩
        rw [show moL [c0, c1, c2, c3, c4, c5, c6, c7, c8, c9, c10, c11, c12, c13, c14, c15, c16] 6 = [uh c0 * 16 + uh c1, uh c3 * 16 + uh c4, 0, 0, 0, 0] from rfl]
        repeat' (first | exact trivial | exact .inl (DLe.refl _) | exact .inl (DLe.nil _ _) | (refine .inr ⟨rfl, _, ?_, rfl⟩; rfl) | exact rfl | exact Nat.zero_le _ | constructor)
      | false =>
        rw [hno (decide_eq_false (by have := of_decide_eq_false g; intro e; exact this (by rw [show c5 = 58 from e]; rfl)))]
        conv => whnf
        rfl
    · have hci : c6 < 256 := hl.get (n := 6) rfl
      have hstep : okAt [c0, c1, c2, c3, c4, c5, c6, c7, c8, c9, c10, c11, c12, c13, c14, c15, c16] 6 = true → ∀ t, t < 7 → okAt [c0, c1, c2, c3, c4, c5, c6, c7, c8, c9, c10, c11, c12, c13, c14, c15, c16] t = true := ok_next hok
      have hno : okAt [c0, c1, c2, c3, c4, c5, c6, c7, c8, c9, c10, c11, c12, c13, c14, c15, c16] 6 = false → rMac [c0, c1, c2, c3, c4, c5, c6, c7, c8, c9, c10, c11, c12, c13, c14, c15, c16] = none := rMac_no (by decide)
      dsimp only
      rw [show moL [c0, c1, c2, c3, c4, c5, c6, c7, c8, c9, c10, c11, c12, c13, c14, c15, c16] 6 = [uh c0 * 16 + uh c1, uh c3 * 16 + uh c4, 0, 0, 0, 0] from rfl]
      conv => whnf
      refine ⟨by decide, ?_⟩
      conv => whnf
      refine ⟨Nat, fun n => ⟨[(6, intD n), (5, intD (6 : Nat)), (4, .loc 1 0), (2, .loc 0 0), (0, strD [c0, c1, c2, c3, c4, c5, c6, c7, c8, c9, c10, c11, c12, c13, c14, c15, c16])], [(1, .cells 33 (macD [uh c0 * 16 + uh c1, uh c3 * 16 + uh c4, 0, 0, 0, 0])), (0, .cells 33 (macD zero6))], 2, ([], 0)⟩,
        fun n => n ≤ 16 ∧ ∀ k, k < n → hx k ≠ c6, fun n => 16 - n, ⟨0, [], [], ?_, Nat.zero_le _, fun k h => absurd h (Nat.not_lt_zero _)⟩, ?_⟩
      · repeat' (first | exact trivial | exact .inl (DLe.refl _) | exact .inl (DLe.nil _ _) | (refine .inr ⟨rfl, _, ?_, rfl⟩; rfl) | exact rfl | exact Nat.zero_le _ | constructor)
      rintro n ⟨hn, hnot⟩
      have hn : n ≤ 16 := hn
      by_cases h16 : n < 16
      · have hf := figure_at n h16 (x := IntKind.u8.wrap (n : Int)) (u8_small (by omega))
        have hn := h16
        conv => whnf
        refine Fork.intro (fun g => ?_) (fun g => absurd (of_decide_eq_false g) (by omega))
        conv => whnf
        refine ⟨⟨by decide, by decide, by rw [strB_size]; show _ ≤ ((17 : Nat) : Int); decide⟩, ?_⟩
        rw [show (strB [c0, c1, c2, c3, c4, c5, c6, c7, c8, c9, c10, c11, c12, c13, c14, c15, c16]).extract ((6 : Nat) : Int).toNat (IntKind.i64.wrap (((6 : Nat) : Int) + 1)).toNat = strB [c6] from str_at (i := 6) rfl]
        conv => whnf
        refine CallVC.pure hf rfl ?_
        rintro _ rfl
        conv => whnf
        rw [figure_ne h16 hci]
        cases gx : decide (hx n = c6) with
        | false =>
          have hne : hx n ≠ c6 := of_decide_eq_false gx
          conv => whnf
          rw [wrap_next (n := 17) (by omega) (by decide)]
          refine ⟨n + 1, [], [], ?_, ⟨h16, fun k hk => ?_⟩, by show 16 - (n + 1) < 16 - n; omega⟩
          · repeat' (first | exact trivial | exact .inl (DLe.refl _) | exact .inl (DLe.nil _ _) | (refine .inr ⟨rfl, _, ?_, rfl⟩; rfl) | exact rfl | exact Nat.zero_le _ | constructor)
          · rcases Nat.lt_succ_iff_lt_or_eq.1 hk with h1 | rfl
            · exact hnot k h1
            · exact hne
        | true =>
          have hu : unhex c6 = some n := by rw [← of_decide_eq_true gx]; exact unhex_hx h16
          have huh : uh c6 = n := by unfold uh; rw [hu]; rfl
  
          conv => whnf
          cases g16 : decide ((n : Int) = 16) with
          | true => exact absurd (of_decide_eq_true g16) (by omega)
          | false =>
          conv => whnf
          refine ⟨by decide, ?_⟩
          conv => whnf
          refine ⟨by decide, ?_⟩
          conv => whnf
          refine ⟨by decide, ?_⟩
          conv => whnf
          refine ⟨by decide, ?_⟩
          conv => whnf
          rw [u8_app0 n hn]
          refine ⟨7, [], [], ?_, ⟨by decide, hstep (by show (unhex c6).isSome = true; rw [hu]; rfl)⟩, by decide⟩
          dsimp only
          rw [show moL [c0, c1, c2, c3, c4, c5, c6, c7, c8, c9, c10, c11, c12, c13, c14, c15, c16] 7 = [uh c0 * 16 + uh c1, uh c3 * 16 + uh c4, uh c6, 0, 0, 0] from rfl, huh]
          repeat' (first | exact trivial | exact .inl (DLe.refl _) | exact .inl (DLe.nil _ _) | (refine .inr ⟨rfl, _, ?_, rfl⟩; rfl) | exact rfl | exact Nat.zero_le _ | constructor)
      · obtain rfl : n = 16 := by omega
        have hu : unhex c6 = none := unhex_no hnot
        rw [hno (by show (unhex c6).isSome = false; rw [hu]; rfl)]
        conv => whnf
        rfl
    · have hci : c7 < 256 := hl.get (n := 7) rfl
      have hstep : okAt [c0, c1, c2, c3, c4, c5, c6, c7, c8, c9, c10, c11, c12, c13, c14, c15, c16] 7 = true → ∀ t, t < 8 → okAt [c0, c1, c2, c3, c4, c5, c6, c7, c8, c9, c10, c11, c12, c13, c14, c15, c16] t = true := ok_next hok
      have hno : okAt [c0, c1, c2, c3, c4, c5, c6, c7, c8, c9, c10, c11, c12, c13, c14, c15, c16] 7 = false → rMac [c0, c1, c2, c3, c4, c5, c6, c7, c8, c9, c10, c11, c12, c13, c14, c15, c16] = none := rMac_no (by decide)
      dsimp only
      rw [show moL [c0, c1, c2, c3, c4, c5, c6, c7, c8, c9, c10, c11, c12, c13, c14, c15, c16] 7 = [uh c0 * 16 + uh c1, uh c3 * 16 + uh c4, uh c6, 0, 0, 0] from rfl]
      conv => whnf
      refine ⟨by decide, ?_⟩
      conv => whnf
      refine ⟨Nat, fun n => ⟨[(6, intD n), (5, intD (7 : Nat)), (4, .loc 1 0), (2, .loc 0 0), (0, strD [c0, c1, c2, c3, c4, c5, c6, c7, c8, c9, c10, c11, c12, c13, c14, c15, c16])], [(1, .cells 33 (macD [uh c0 * 16 + uh c1, uh c3 * 16 + uh c4, uh c6, 0, 0, 0])), (0, .cells 33 (macD zero6))], 2, ([], 0)⟩,
        fun n => n ≤ 16 ∧ ∀ k, k < n → hx k ≠ c7, fun n => 16 - n, ⟨0, [], [], ?_, Nat.zero_le _, fun k h => absurd h (Nat.not_lt_zero _)⟩, ?_⟩
      · repeat' (first | exact trivial | exact .inl (DLe.refl _) | exact .inl (DLe.nil _ _) | (refine .inr ⟨rfl, _, ?_, rfl⟩; rfl) | exact rfl | exact Nat.zero_le _ | constructor)
      rintro n ⟨hn, hnot⟩
      have hn : n ≤ 16 := hn
      by_cases h16 : n < 16
      · have hf := figure_at n h16 (x := IntKind.u8.wrap (n : Int)) (u8_small (by omega))
        have hn := h16
        conv => whnf
        refine Fork.intro (fun g => ?_) (fun g => absurd (of_decide_eq_false g) (by omega))
        conv => whnf
        refine ⟨⟨by decide, by decide, by rw [strB_size]; show _ ≤ ((17 : Nat) : Int); decide⟩, ?_⟩
        rw [show (strB [c0, c1, c2, c3, c4, c5, c6, c7, c8, c9, c10, c11, c12, c13, c14, c15, c16]).extract ((7 : Nat) : Int).toNat (IntKind.i64.wrap (((7 : Nat) : Int) + 1)).toNat = strB [c7] from str_at (i := 7) rfl]
        conv => whnf
        refine CallVC.pure hf rfl ?_
        rintro _ rfl
        conv => whnf
        rw [figure_ne h16 hci]
        cases gx : decide (hx n = c7) with
        | false =>
          have hne : hx n ≠ c7 := of_decide_eq_false gx
          conv => whnf
          rw [wrap_next (n := 17) (by omega) (by decide)]
          refine ⟨n + 1, [], [], ?_, ⟨h16, fun k hk => ?_⟩, by show 16 - (n + 1) < 16 - n; omega⟩
          · repeat' (first | exact trivial | exact .inl (DLe.refl _) | exact .inl (DLe.nil _ _) | (refine .inr ⟨rfl, _, ?_, rfl⟩; rfl) | exact rfl | exact Nat.zero_le _ | constructor)
          · rcases Nat.lt_succ_iff_lt_or_eq.1 hk with h1 | rfl
            · exact hnot k h1
            · exact hne
        | true =>
          have hu : unhex c7 = some n := by rw [← of_decide_eq_true gx]; exact unhex_hx h16
          have huh : uh c7 = n := by unfold uh; rw [hu]; rfl
          have hu0 : uh c6 < 16 := by
            have h9 := hok 6 (by decide)
            have h9 : (unhex c6).isSome = true := h9
            cases h8 : unhex c6 with
            | none => rw [h8] at h9; cases h9
            | some k => unfold uh; rw [h8]; exact (unhex_some h8).1

          conv => whnf
          cases g16 : decide ((n : Int) = 16) with
          | true => exact absurd (of_decide_eq_true g16) (by omega)
          | false =>
          conv => whnf
          refine ⟨by decide, ?_⟩
          conv => whnf
          refine ⟨by decide, ?_⟩
          conv => whnf
          refine ⟨by decide, ?_⟩
          conv => whnf
          refine ⟨by decide, ?_⟩
          conv => whnf
          rw [u8_app (uh c6) n hu0 hn]
          refine ⟨8, [], [], ?_, ⟨by decide, hstep (by show (unhex c7).isSome = true; rw [hu]; rfl)⟩, by decide⟩
          dsimp only
          rw [show moL [c0, c1, c2, c3, c4, c5, c6, c7, c8, c9, c10, c11, c12, c13, c14, c15, c16] 8 = [uh c0 * 16 + uh c1, uh c3 * 16 + uh c4, uh c6 * 16 + uh c7, 0, 0, 0] from rfl, huh]
          repeat' (first | exact trivial | exact .inl (DLe.refl _) | exact .inl (DLe.nil _ _) | (refine .inr ⟨rfl, _, ?_, rfl⟩; rfl) | exact rfl | exact Nat.zero_le _ | constructor)
      · obtain rfl : n = 16 := by omega
        have hu : unhex c7 = none := unhex_no hnot
        rw [hno (by show (unhex c7).isSome = false; rw [hu]; rfl)]
        conv => whnf
        rfl
    · have hci : c8 < 256 := hl.get (n := 8) rfl
      have hstep : okAt [c0, c1, c2, c3, c4, c5, c6, c7, c8, c9, c10, c11, c12, c13, c14, c15, c16] 8 = true → ∀ t, t < 9 → okAt [c0, c1, c2, c3, c4, c5, c6, c7, c8, c9, c10, c11, c12, c13, c14, c15, c16] t = true := ok_next hok
      have hno : okAt [c0, c1, c2, c3, c4, c5, c6, c7, c8, c9, c10, c11, c12, c13, c14, c15, c16] 8 = false → rMac [c0, c1, c2, c3, c4, c5, c6, c7, c8, c9, c10, c11, c12, c13, c14, c15, c16] = none := rMac_no (by decide)
      dsimp only
      rw [show moL [c0, c1, c2, c3, c4, c5, c6, c7, c8, c9, c10, c11, c12, c13, c14, c15, c16] 8 = [uh c0 * 16 + uh c1, uh c3 * 16 + uh c4, uh c6 * 16 + uh c7, 0, 0, 0] from rfl]
      conv => whnf
      refine ⟨by decide, ?_⟩
      conv => whnf
      refine ⟨⟨by decide, by rw [strB_size]; show _ < ((17 : Nat) : Int); decide⟩, fun b hb => ?_⟩
      have hb := strB_get hl hb
      have hb : some c8 = some b.toNat := hb
      injection hb with hb
      rw [← hb]
      conv => whnf
      cases g : decide ((c8 : Int) = 58) with
      | true =>
        have he : c8 = 58 := by have := of_decide_eq_true g; omega
        conv => whnf
        refine ⟨9, [], [], ?_, ⟨by decide, hstep (decide_eq_true he)⟩, by decide⟩
        rw [show moL [c0, c1, c2, c3, c4, c5, c6, c7, c8, c9, c10, c11, c12, c13, c14, c15, c16] 9 = [uh c0 * 16 + uh c1, uh c3 * 16 + uh c4, uh c6 * 16 + uh c7, 0, 0, 0] from rfl]
        repeat' (first | exact trivial | exact .inl (DLe.refl _) | exact .inl (DLe.nil _ _) | (refine .inr ⟨rfl, _, ?_, rfl⟩; rfl) | exact rfl | exact Nat.zero_le _ | constructor)
      | false =>
        rw [hno (decide_eq_false (by have := of_decide_eq_false g; intro e; exact this (by rw [show c8 = 58 from e]; rfl)))]
        conv => whnf
        rfl
    · have hci : c9 < 256 := hl.get (n := 9) rfl
      have hstep : okAt [c0, c1, c2, c3, c4, c5, c6, c7, c8, c9, c10, c11, c12, c13, c14, c15, c16] 9 = true → ∀ t, t < 10 → okAt [c0, c1, c2, c3, c4, c5, c6, c7, c8, c9, c10, c11, c12, c13, c14, c15, c16] t = true := ok_next hok
      have hno : okAt [c0, c1, c2, c3, c4, c5, c6, c7, c8, c9, c10, c11, c12, c13, c14, c15, c16] 9 = false → rMac [c0, c1, c2, c3, c4, c5, c6, c7, c8, c9, c10, c11, c12, c13, c14, c15, c16] = none := rMac_no (by decide)
      dsimp only
      rw [show moL [c0, c1, c2, c3, c4, c5, c6, c7, c8, c9, c10, c11, c12, c13, c14, c15, c16] 9 = [uh c0 * 16 + uh c1, uh c3 * 16 + uh c4, uh c6 * 16 + uh c7, 0, 0, 0] from rfl]
      conv => whnf
      refine ⟨by decide, ?_⟩
      conv => whnf
      refine ⟨Nat, fun n => ⟨[(6, intD n), (5, intD (9 : Nat)), (4, .loc 1 0), (2, .loc 0 0), (0, strD [c0, c1, c2, c3, c4, c5, c6, c7, c8, c9, c10, c11, c12, c13, c14, c15, c16])], [(1, .cells 33 (macD [uh c0 * 16 + uh c1, uh c3 * 16 + uh c4, uh c6 * 16 + uh c7, 0, 0, 0])), (0, .cells 33 (macD zero6))], 2, ([], 0)⟩,
        fun n => n ≤ 16 ∧ ∀ k, k < n → hx k ≠ c9, fun n => 16 - n, ⟨0, [], [], ?_, Nat.zero_le _, fun k h => absurd h (Nat.not_lt_zero _)⟩, ?_⟩
      · repeat' (first | exact trivial | exact .inl (DLe.refl _) | exact .inl (DLe.nil _ _) | (refine .inr ⟨rfl, _, ?_, rfl⟩; rfl) | exact rfl | exact Nat.zero_le _ | constructor)
      rintro n ⟨hn, hnot⟩
      have hn : n ≤ 16 := hn
      by_cases h16 : n < 16
      · have hf := figure_at n h16 (x := IntKind.u8.wrap (n : Int)) (u8_small (by omega))
        have hn := h16
        conv => whnf
        refine Fork.intro (fun g => ?_) (fun g => absurd (of_decide_eq_false g) (by omega))
        conv => whnf
        refine ⟨⟨by decide, by decide, by rw [strB_size]; show _ ≤ ((17 : Nat) : Int); decide⟩, ?_⟩
        rw [show (strB [c0, c1, c2, c3, c4, c5, c6, c7, c8, c9, c10, c11, c12, c13, c14, c15, c16]).extract ((9 : Nat) : Int).toNat (IntKind.i64.wrap (((9 : Nat) : Int) + 1)).toNat = strB [c9] from str_at (i := 9) rfl]
        conv => whnf
        refine CallVC.pure hf rfl ?_
        rintro _ rfl
        conv => whnf
        rw [figure_ne h16 hci]
        cases gx : decide (hx n = c9) with
        | false =>
          have hne : hx n ≠ c9 := of_decide_eq_false gx
          conv => whnf
          rw [wrap_next (n := 17) (by omega) (by decide)]
          refine ⟨n + 1, [], [], ?_, ⟨h16, fun k hk => ?_⟩, by show 16 - (n + 1) < 16 - n; omega⟩
          · repeat' (first | exact trivial | exact .inl (DLe.refl _) | exact .inl (DLe.nil _ _) | (refine .inr ⟨rfl, _, ?_, rfl⟩; rfl) | exact rfl | exact Nat.zero_le _ | constructor)
          · rcases Nat.lt_succ_iff_lt_or_eq.1 hk with h1 | rfl
            · exact hnot k h1
            · exact hne
        | true =>
          have hu : unhex c9 = some n := by rw [← of_decide_eq_true gx]; exact unhex_hx h16
          have huh : uh c9 = n := by unfold uh; rw [hu]; rfl
  
          conv => whnf
          cases g16 : decide ((n : Int) = 16) with
          | true => exact absurd (of_decide_eq_true g16) (by omega)
          | false =>
          conv => whnf
          refine ⟨by decide, ?_⟩
          conv => whnf
          refine ⟨by decide, ?_⟩
          conv => whnf
          refine ⟨by decide, ?_⟩
          conv => whnf
          refine ⟨by decide, ?_⟩
          conv => whnf
          rw [u8_app0 n hn]
          refine ⟨10, [], [], ?_, ⟨by decide, hstep (by show (unhex c9).isSome = true; rw [hu]; rfl)⟩, by decide⟩
          dsimp only
          rw [show moL [c0, c1, c2, c3, c4, c5, c6, c7, c8, c9, c10, c11, c12, c13, c14, c15, c16] 10 = [uh c0 * 16 + uh c1, uh c3 * 16 + uh c4, uh c6 * 16 + uh c7, uh c9, 0, 0] from rfl, huh]
          repeat' (first | exact trivial | exact .inl (DLe.refl _) | exact .inl (DLe.nil _ _) | (refine .inr ⟨rfl, _, ?_, rfl⟩; rfl) | exact rfl | exact Nat.zero_le _ | constructor)
      · obtain rfl : n = 16 := by omega
        have hu : unhex c9 = none := unhex_no hnot
        rw [hno (by show (unhex c9).isSome = false; rw [hu]; rfl)]
        conv => whnf
        rfl
    · have hci : c10 < 256 := hl.get (n := 10) rfl
      have hstep : okAt [c0, c1, c2, c3, c4, c5, c6, c7, c8, c9, c10, c11, c12, c13, c14, c15, c16] 10 = true → ∀ t, t < 11 → okAt [c0, c1, c2, c3, c4, c5, c6, c7, c8, c9, c10, c11, c12, c13, c14, c15, c16] t = true := ok_next hok
      have hno : okAt [c0, c1, c2, c3, c4, c5, c6, c7, c8, c9, c10, c11, c12, c13, c14, c15, c16] 10 = false → rMac [c0, c1, c2, c3, c4, c5, c6, c7, c8, c9, c10, c11, c12, c13, c14, c15, c16] = none := rMac_no (by decide)
      dsimp only
      rw [show moL [c0, c1, c2, c3, c4, c5, c6, c7, c8, c9, c10, c11, c12, c13, c14, c15, c16] 10 = [uh c0 * 16 + uh c1, uh c3 * 16 + uh c4, uh c6 * 16 + uh c7, uh c9, 0, 0] from rfl]
      conv => whnf
      refine ⟨by decide, ?_⟩
      conv => whnf
      refine ⟨Nat, fun n => ⟨[(6, intD n), (5, intD (10 : Nat)), (4, .loc 1 0), (2, .loc 0 0), (0, strD [c0, c1, c2, c3, c4, c5, c6, c7, c8, c9, c10, c11, c12, c13, c14, c15, c16])], [(1, .cells 33 (macD [uh c0 * 16 + uh c1, uh c3 * 16 + uh c4, uh c6 * 16 + uh c7, uh c9, 0, 0])), (0, .cells 33 (macD zero6))], 2, ([], 0)⟩,
        fun n => n ≤ 16 ∧ ∀ k, k < n → hx k ≠ c10, fun n => 16 - n, ⟨0, [], [], ?_, Nat.zero_le _, fun k h => absurd h (Nat.not_lt_zero _)⟩, ?_⟩
      · repeat' (first | exact trivial | exact .inl (DLe.refl _) | exact .inl (DLe.nil _ _) | (refine .inr ⟨rfl, _, ?_, rfl⟩; rfl) | exact rfl | exact Nat.zero_le _ | constructor)
      rintro n ⟨hn, hnot⟩
      have hn : n ≤ 16 := hn
      by_cases h16 : n < 16
      · have hf := figure_at n h16 (x := IntKind.u8.wrap (n : Int)) (u8_small (by omega))
        have hn := h16
        conv => whnf
        refine Fork.intro (fun g => ?_) (fun g => absurd (of_decide_eq_false g) (by omega))
        conv => whnf
        refine ⟨⟨by decide, by decide, by rw [strB_size]; show _ ≤ ((17 : Nat) : Int); decide⟩, ?_⟩
        rw [show (strB [c0, c1, c2, c3, c4, c5, c6, c7, c8, c9, c10, c11, c12, c13, c14, c15, c16]).extract ((10 : Nat) : Int).toNat (IntKind.i64.wrap (((10 : Nat) : Int) + 1)).toNat = strB [c10] from str_at (i := 10) rfl]
        conv => whnf
        refine CallVC.pure hf rfl ?_
        rintro _ rfl
        conv => whnf
        rw [figure_ne h16 hci]
        cases gx : decide (hx n = c10) with
        | false =>
          have hne : hx n ≠ c10 := of_decide_eq_false gx
          conv => whnf
          rw [wrap_next (n := 17) (by omega) (by decide)]
          refine ⟨n + 1, [], [], ?_, ⟨h16, fun k hk => ?_⟩, by show 16 - (n + 1) < 16 - n; omega⟩
          · repeat' (first | exact trivial | exact .inl (DLe.refl _) | exact .inl (DLe.nil _ _) | (refine .inr ⟨rfl, _, ?_, rfl⟩; rfl) | exact rfl | exact Nat.zero_le _ | constructor)
          · rcases Nat.lt_succ_iff_lt_or_eq.1 hk with h1 | rfl
            · exact hnot k h1
            · exact hne
        | true =>
          have hu : unhex c10 = some n := by rw [← of_decide_eq_true gx]; exact unhex_hx h16
          have huh : uh c10 = n := by unfold uh; rw [hu]; rfl
          have hu0 : uh c9 < 16 := by
            have h9 := hok 9 (by decide)
            have h9 : (unhex c9).isSome = true := h9
            cases h8 : unhex c9 with
            | none => rw [h8] at h9; cases h9
            | some k => unfold uh; rw [h8]; exact (unhex_some h8).1

          conv => whnf
          cases g16 : decide ((n : Int) = 16) with
          | true => exact absurd (of_decide_eq_true g16) (by omega)
          | false =>
          conv => whnf
          refine ⟨by decide, ?_⟩
          conv => whnf
          refine ⟨by decide, ?_⟩
          conv => whnf
          refine ⟨by decide, ?_⟩
          conv => whnf
          refine ⟨by decide, ?_⟩
          conv => whnf
          rw [u8_app (uh c9) n hu0 hn]
          refine ⟨11, [], [], ?_, ⟨by decide, hstep (by show (unhex c10).isSome = true; rw [hu]; rfl)⟩, by decide⟩
          dsimp only
          rw [show moL [c0, c1, c2, c3, c4, c5, c6, c7, c8, c9, c10, c11, c12, c13, c14, c15, c16] 11 = [uh c0 * 16 + uh c1, uh c3 * 16 + uh c4, uh c6 * 16 + uh c7, uh c9 * 16 + uh c10, 0, 0] from rfl, huh]
          repeat' (first | exact trivial | exact .inl (DLe.refl _) | exact .inl (DLe.nil _ _) | (refine .inr ⟨rfl, _, ?_, rfl⟩; rfl) | exact rfl | exact Nat.zero_le _ | constructor)
      · obtain rfl : n = 16 := by omega
        have hu : unhex c10 = none := unhex_no hnot
        rw [hno (by show (unhex c10).isSome = false; rw [hu]; rfl)]
        conv => whnf
        rfl
    · have hci : c11 < 256 := hl.get (n := 11) rfl
      have hstep : okAt [c0, c1, c2, c3, c4, c5, c6, c7, c8, c9, c10, c11, c12, c13, c14, c15, c16] 11 = true → ∀ t, t < 12 → okAt [c0, c1, c2, c3, c4, c5, c6, c7, c8, c9, c10, c11, c12, c13, c14, c15, c16] t = true := ok_next hok
      have hno : okAt [c0, c1, c2, c3, c4, c5, c6, c7, c8, c9, c10, c11, c12, c13, c14, c15, c16] 11 = false → rMac [c0, c1, c2, c3, c4, c5, c6, c7, c8, c9, c10, c11, c12, c13, c14, c15, c16] = none := rMac_no (by decide)
      dsimp only
      rw [show moL [c0, c1, c2, c3, c4, c5, c6, c7, c8, c9, c10, c11, c12, c13, c14, c15, c16] 11 = [uh c0 * 16 + uh c1, uh c3 * 16 + uh c4, uh c6 * 16 + uh c7, uh c9 * 16 + uh c10, 0, 0] from rfl]
      conv => whnf
      refine ⟨by decide, ?_⟩
      conv => whnf
      refine ⟨⟨by decide, by rw [strB_size]; show _ < ((17 : Nat) : Int); decide⟩, fun b hb => ?_⟩
      have hb := strB_get hl hb
      have hb : some c11 = some b.toNat := hb
      injection hb with hb
      rw [← hb]
      conv => whnf
      cases g : decide ((c11 : Int) = 58) with
      | true =>
        have he : c11 = 58 := by have := of_decide_eq_true g; omega
        conv => whnf
        refine ⟨12, [], [], ?_, ⟨by decide, hstep (decide_eq_true he)⟩, by decide⟩
        rw [show moL [c0, c1, c2, c3, c4, c5, c6, c7, c8, c9, c10, c11, c12, c13, c14, c15, c16] 12 = [uh c0 * 16 + uh c1, uh c3 * 16 + uh c4, uh c6 * 16 + uh c7, uh c9 * 16 + uh c10, 0, 0] from rfl]
        repeat' (first | exact trivial | exact .inl (DLe.refl _) | exact .inl (DLe.nil _ _) | (refine .inr ⟨rfl, _, ?_, rfl⟩; rfl) | exact rfl | exact Nat.zero_le _ | constructor)
      | false =>
        rw [hno (decide_eq_false (by have := of_decide_eq_false g; intro e; exact this (by rw [show c11 = 58 from e]; rfl)))]
        conv => whnf
        rfl
    · have hci : c12 < 256 := hl.get (n := 12) rfl
      have hstep : okAt [c0, c1, c2, c3, c4, c5, c6, c7, c8, c9, c10, c11, c12, c13, c14, c15, c16] 12 = true → ∀ t, t < 13 → okAt [c0, c1, c2, c3, c4, c5, c6, c7, c8, c9, c10, c11, c12, c13, c14, c15, c16] t = true := ok_next hok
      have hno : okAt [c0, c1, c2, c3, c4, c5, c6, c7, c8, c9, c10, c11, c12, c13, c14, c15, c16] 12 = false → rMac [c0, c1, c2, c3, c4, c5, c6, c7, c8, c9, c10, c11, c12, c13, c14, c15, c16] = none := rMac_no (by decide)
      dsimp only
      rw [show moL [c0, c1, c2, c3, c4, c5, c6, c7, c8, c9, c10, c11, c12, c13, c14, c15, c16] 12 = [uh c0 * 16 + uh c1, uh c3 * 16 + uh c4, uh c6 * 16 + uh c7, uh c9 * 16 + uh c10, 0, 0] from rfl]
      conv => whnf
      refine ⟨by decide, ?_⟩
      conv => whnf
      refine ⟨Nat, fun n => ⟨[(6, intD n), (5, intD (12 : Nat)), (4, .loc 1 0), (2, .loc 0 0), (0, strD [c0, c1, c2, c3, c4, c5, c6, c7, c8, c9, c10, c11, c12, c13, c14, c15, c16])], [(1, .cells 33 (macD [uh c0 * 16 + uh c1, uh c3 * 16 + uh c4, uh c6 * 16 + uh c7, uh c9 * 16 + uh c10, 0, 0])), (0, .cells 33 (macD zero6))], 2, ([], 0)⟩,
        fun n => n ≤ 16 ∧ ∀ k, k < n → hx k ≠ c12, fun n => 16 - n, ⟨0, [], [], ?_, Nat.zero_le _, fun k h => absurd h (Nat.not_lt_zero _)⟩, ?_⟩
      · repeat' (first | exact trivial | exact .inl (DLe.refl _) | exact .inl (DLe.nil _ _) | (refine .inr ⟨rfl, _, ?_, rfl⟩; rfl) | exact rfl | exact Nat.zero_le _ | constructor)
      rintro n ⟨hn, hnot⟩
      have hn : n ≤ 16 := hn
      by_cases h16 : n < 16
      · have hf := figure_at n h16 (x := IntKind.u8.wrap (n : Int)) (u8_small (by omega))
        have hn := h16
        conv => whnf
        refine Fork.intro (fun g => ?_) (fun g => absurd (of_decide_eq_false g) (by omega))
        conv => whnf
        refine ⟨⟨by decide, by decide, by rw [strB_size]; show _ ≤ ((17 : Nat) : Int); decide⟩, ?_⟩
        rw [show (strB [c0, c1, c2, c3, c4, c5, c6, c7, c8, c9, c10, c11, c12, c13, c14, c15, c16]).extract ((12 : Nat) : Int).toNat (IntKind.i64.wrap (((12 : Nat) : Int) + 1)).toNat = strB [c12] from str_at (i := 12) rfl]
        conv => whnf
        refine CallVC.pure hf rfl ?_
        rintro _ rfl
        conv => whnf
        rw [figure_ne h16 hci]
        cases gx : decide (hx n = c12) with
        | false =>
          have hne : hx n ≠ c12 := of_decide_eq_false gx
          conv => whnf
          rw [wrap_next (n := 17) (by omega) (by decide)]
          refine ⟨n + 1, [], [], ?_, ⟨h16, fun k hk => ?_⟩, by show 16 - (n + 1) < 16 - n; omega⟩
          · repeat' (first | exact trivial | exact .inl (DLe.refl _) | exact .inl (DLe.nil _ _) | (refine .inr ⟨rfl, _, ?_, rfl⟩; rfl) | exact rfl | exact Nat.zero_le _ | constructor)
          · rcases Nat.lt_succ_iff_lt_or_eq.1 hk with h1 | rfl
            · exact hnot k h1
            · exact hne
        | true =>
          have hu : unhex c12 = some n := by rw [← of_decide_eq_true gx]; exact unhex_hx h16
          have huh : uh c12 = n := by unfold uh; rw [hu]; rfl
  
          conv => whnf
          cases g16 : decide ((n : Int) = 16) with
          | true => exact absurd (of_decide_eq_true g16) (by omega)
          | false =>
          conv => whnf
          refine ⟨by decide, ?_⟩
          conv => whnf
          refine ⟨by decide, ?_⟩
          conv => whnf
          refine ⟨by decide, ?_⟩
          conv => whnf
          refine ⟨by decide, ?_⟩
          conv => whnf
          rw [u8_app0 n hn]
          refine ⟨13, [], [], ?_, ⟨by decide, hstep (by show (unhex c12).isSome = true; rw [hu]; rfl)⟩, by decide⟩
          dsimp only
          rw [show moL [c0, c1, c2, c3, c4, c5, c6, c7, c8, c9, c10, c11, c12, c13, c14, c15, c16] 13 = [uh c0 * 16 + uh c1, uh c3 * 16 + uh c4, uh c6 * 16 + uh c7, uh c9 * 16 + uh c10, uh c12, 0] from rfl, huh]
          repeat' (first | exact trivial | exact .inl (DLe.refl _) | exact .inl (DLe.nil _ _) | (refine .inr ⟨rfl, _, ?_, rfl⟩; rfl) | exact rfl | exact Nat.zero_le _ | constructor)
      · obtain rfl : n = 16 := by omega
        have hu : unhex c12 = none := unhex_no hnot
        rw [hno (by show (unhex c12).isSome = false; rw [hu]; rfl)]
        conv => whnf
        rfl
    · have hci : c13 < 256 := hl.get (n := 13) rfl
      have hstep : okAt [c0, c1, c2, c3, c4, c5, c6, c7, c8, c9, c10, c11, c12, c13, c14, c15, c16] 13 = true → ∀ t, t < 14 → okAt [c0, c1, c2, c3, c4, c5, c6, c7, c8, c9, c10, c11, c12, c13, c14, c15, c16] t = true := ok_next hok
      have hno : okAt [c0, c1, c2, c3, c4, c5, c6, c7, c8, c9, c10, c11, c12, c13, c14, c15, c16] 13 = false → rMac [c0, c1, c2, c3, c4, c5, c6, c7, c8, c9, c10, c11, c12, c13, c14, c15, c16] = none := rMac_no (by decide)
      dsimp only
      rw [show moL [c0, c1, c2, c3, c4, c5, c6, c7, c8, c9, c10, c11, c12, c13, c14, c15, c16] 13 = [uh c0 * 16 + uh c1, uh c3 * 16 + uh c4, uh c6 * 16 + uh c7, uh c9 * 16 + uh c10, uh c12, 0] from rfl]
      conv => whnf
      refine ⟨by decide, ?_⟩
      conv => whnf
      refine ⟨Nat, fun n => ⟨[(6, intD n), (5, intD (13 : Nat)), (4, .loc 1 0), (2, .loc 0 0), (0, strD [c0, c1, c2, c3, c4, c5, c6, c7, c8, c9, c10, c11, c12, c13, c14, c15, c16])], [(1, .cells 33 (macD [uh c0 * 16 + uh c1, uh c3 * 16 + uh c4, uh c6 * 16 + uh c7, uh c9 * 16 + uh c10, uh c12, 0])), (0, .cells 33 (macD zero6))], 2, ([], 0)⟩,
        fun n => n ≤ 16 ∧ ∀ k, k < n → hx k ≠ c13, fun n => 16 - n, ⟨0, [], [], ?_, Nat.zero_le _, fun k h => absurd h (Nat.not_lt_zero _)⟩, ?_⟩
      · repeat' (first | exact trivial | exact .inl (DLe.refl _) | exact .inl (DLe.nil _ _) | (refine .inr ⟨rfl, _, ?_, rfl⟩; rfl) | exact rfl | exact Nat.zero_le _ | constructor)
      rintro n ⟨hn, hnot⟩
      have hn : n ≤ 16 := hn
      by_cases h16 : n < 16
      · have hf := figure_at n h16 (x := IntKind.u8.wrap (n : Int)) (u8_small (by omega))
        have hn := h16
        conv => whnf
        refine Fork.intro (fun g => ?_) (fun g => absurd (of_decide_eq_false g) (by omega))
        conv => whnf
        refine ⟨⟨by decide, by decide, by rw [strB_size]; show _ ≤ ((17 : Nat) : Int); decide⟩, ?_⟩
        rw [show (strB [c0, c1, c2, c3, c4, c5, c6, c7, c8, c9, c10, c11, c12, c13, c14, c15, c16]).extract ((13 : Nat) : Int).toNat (IntKind.i64.wrap (((13 : Nat) : Int) + 1)).toNat = strB [c13] from str_at (i := 13) rfl]
        conv => whnf
        refine CallVC.pure hf rfl ?_
        rintro _ rfl
        conv => whnf
        rw [figure_ne h16 hci]
        cases gx : decide (hx n = c13) with
        | false =>
          have hne : hx n ≠ c13 := of_decide_eq_false gx
          conv => whnf
          rw [wrap_next (n := 17) (by omega) (by decide)]
          refine ⟨n + 1, [], [], ?_, ⟨h16, fun k hk => ?_⟩, by show 16 - (n + 1) < 16 - n; omega⟩
          · repeat' (first | exact trivial | exact .inl (DLe.refl _) | exact .inl (DLe.nil _ _) | (refine .inr ⟨rfl, _, ?_, rfl⟩; rfl) | exact rfl | exact Nat.zero_le _ | constructor)
          · rcases Nat.lt_succ_iff_lt_or_eq.1 hk with h1 | rfl
            · exact hnot k h1
            · exact hne
        | true =>
          have hu : unhex c13 = some n := by rw [← of_decide_eq_true gx]; exact unhex_hx h16
          have huh : uh c13 = n := by unfold uh; rw [hu]; rfl
          have hu0 : uh c12 < 16 := by
            have h9 := hok 12 (by decide)
            have h9 : (unhex c12).isSome = true := h9
            cases h8 : unhex c12 with
            | none => rw [h8] at h9; cases h9
            | some k => unfold uh; rw [h8]; exact (unhex_some h8).1

          conv => whnf
          cases g16 : decide ((n : Int) = 16) with
          | true => exact absurd (of_decide_eq_true g16) (by omega)
          | false =>
          conv => whnf
          refine ⟨by decide, ?_⟩
          conv => whnf
          refine ⟨by decide, ?_⟩
          conv => whnf
          refine ⟨by decide, ?_⟩
          conv => whnf
          refine ⟨by decide, ?_⟩
          conv => whnf
          rw [u8_app (uh c12) n hu0 hn]
          refine ⟨14, [], [], ?_, ⟨by decide, hstep (by show (unhex c13).isSome = true; rw [hu]; rfl)⟩, by decide⟩
          dsimp only
          rw [show moL [c0, c1, c2, c3, c4, c5, c6, c7, c8, c9, c10, c11, c12, c13, c14, c15, c16] 14 = [uh c0 * 16 + uh c1, uh c3 * 16 + uh c4, uh c6 * 16 + uh c7, uh c9 * 16 + uh c10, uh c12 * 16 + uh c13, 0] from rfl, huh]
          repeat' (first | exact trivial | exact .inl (DLe.refl _) | exact .inl (DLe.nil _ _) | (refine .inr ⟨rfl, _, ?_, rfl⟩; rfl) | exact rfl | exact Nat.zero_le _ | constructor)
      · obtain rfl : n = 16 := by omega
        have hu : unhex c13 = none := unhex_no hnot
        rw [hno (by show (unhex c13).isSome = false; rw [hu]; rfl)]
        conv => whnf
        rfl
    · have hci : c14 < 256 := hl.get (n := 14) rfl
      have hstep : okAt [c0, c1, c2, c3, c4, c5, c6, c7, c8, c9, c10, c11, c12, c13, c14, c15, c16] 14 = true → ∀ t, t < 15 → okAt [c0, c1, c2, c3, c4, c5, c6, c7, c8, c9, c10, c11, c12, c13, c14, c15, c16] t = true := ok_next hok
      have hno : okAt [c0, c1, c2, c3, c4, c5, c6, c7, c8, c9, c10, c11, c12, c13, c14, c15, c16] 14 = false → rMac [c0, c1, c2, c3, c4, c5, c6, c7, c8, c9, c10, c11, c12, c13, c14, c15, c16] = none := rMac_no (by decide)
      dsimp only
      rw [show moL [c0, c1, c2, c3, c4, c5, c6, c7, c8, c9, c10, c11, c12, c13, c14, c15, c16] 14 = [uh c0 * 16 + uh c1, uh c3 * 16 + uh c4, uh c6 * 16 + uh c7, uh c9 * 16 + uh c10, uh c12 * 16 + uh c13, 0] from rfl]
      conv => whnf
      refine ⟨by decide, ?_⟩
      conv => whnf
      refine ⟨⟨by decide, by rw [strB_size]; show _ < ((17 : Nat) : Int); decide⟩, fun b hb => ?_⟩
      have hb := strB_get hl hb
      have hb : some c14 = some b.toNat := hb
      injection hb with hb
      rw [← hb]
      conv => whnf
      cases g : decide ((c14 : Int) = 58) with
      | true =>
        have he : c14 = 58 := by have := of_decide_eq_true g; omega
        conv => whnf
        refine ⟨15, [], [], ?_, ⟨by decide, hstep (decide_eq_true he)⟩, by decide⟩
        rw [show moL [c0, c1, c2, c3, c4, c5, c6, c7, c8, c9, c10, c11, c12, c13, c14, c15, c16] 15 = [uh c0 * 16 + uh c1, uh c3 * 16 + uh c4, uh c6 * 16 + uh c7, uh c9 * 16 + uh c10, uh c12 * 16 + uh c13, 0] from rfl]
        repeat' (first | exact trivial | exact .inl (DLe.refl _) | exact .inl (DLe.nil _ _) | (refine .inr ⟨rfl, _, ?_, rfl⟩; rfl) | exact rfl | exact Nat.zero_le _ | constructor)
      | false =>
        rw [hno (decide_eq_false (by have := of_decide_eq_false g; intro e; exact this (by rw [show c14 = 58 from e]; rfl)))]
        conv => whnf
        rfl
    · have hci : c15 < 256 := hl.get (n := 15) rfl
      have hstep : okAt [c0, c1, c2, c3, c4, c5, c6, c7, c8, c9, c10, c11, c12, c13, c14, c15, c16] 15 = true → ∀ t, t < 16 → okAt [c0, c1, c2, c3, c4, c5, c6, c7, c8, c9, c10, c11, c12, c13, c14, c15, c16] t = true := ok_next hok
      have hno : okAt [c0, c1, c2, c3, c4, c5, c6, c7, c8, c9, c10, c11, c12, c13, c14, c15, c16] 15 = false → rMac [c0, c1, c2, c3, c4, c5, c6, c7, c8, c9, c10, c11, c12, c13, c14, c15, c16] = none := rMac_no (by decide)
      dsimp only
      rw [show moL [c0, c1, c2, c3, c4, c5, c6, c7, c8, c9, c10, c11, c12, c13, c14, c15, c16] 15 = [uh c0 * 16 + uh c1, uh c3 * 16 + uh c4, uh c6 * 16 + uh c7, uh c9 * 16 + uh c10, uh c12 * 16 + uh c13, 0] from rfl]
      conv => whnf
      refine ⟨by decide, ?_⟩
      conv => whnf
      refine ⟨Nat, fun n => ⟨[(6, intD n), (5, intD (15 : Nat)), (4, .loc 1 0), (2, .loc 0 0), (0, strD [c0, c1, c2, c3, c4, c5, c6, c7, c8, c9, c10, c11, c12, c13, c14, c15, c16])], [(1, .cells 33 (macD [uh c0 * 16 + uh c1, uh c3 * 16 + uh c4, uh c6 * 16 + uh c7, uh c9 * 16 + uh c10, uh c12 * 16 + uh c13, 0])), (0, .cells 33 (macD zero6))], 2, ([], 0)⟩,
        fun n => n ≤ 16 ∧ ∀ k, k < n → hx k ≠ c15, fun n => 16 - n, ⟨0, [], [], ?_, Nat.zero_le _, fun k h => absurd h (Nat.not_lt_zero _)⟩, ?_⟩
      · repeat' (first | exact trivial | exact .inl (DLe.refl _) | exact .inl (DLe.nil _ _) | (refine .inr ⟨rfl, _, ?_, rfl⟩; rfl) | exact rfl | exact Nat.zero_le _ | constructor)
      rintro n ⟨hn, hnot⟩
      have hn : n ≤ 16 := hn
      by_cases h16 : n < 16
      · have hf := figure_at n h16 (x := IntKind.u8.wrap (n : Int)) (u8_small (by omega))
        have hn := h16
        conv => whnf
        refine Fork.intro (fun g => ?_) (fun g => absurd (of_decide_eq_false g) (by omega))
        conv => whnf
        refine ⟨⟨by decide, by decide, by rw [strB_size]; show _ ≤ ((17 : Nat) : Int); decide⟩, ?_⟩
        rw [show (strB [c0, c1, c2, c3, c4, c5, c6, c7, c8, c9, c10, c11, c12, c13, c14, c15, c16]).extract ((15 : Nat) : Int).toNat (IntKind.i64.wrap (((15 : Nat) : Int) + 1)).toNat = strB [c15] from str_at (i := 15) rfl]
        conv => whnf
        refine CallVC.pure hf rfl ?_
        rintro _ rfl
        conv => whnf
        rw [figure_ne h16 hci]
        cases gx : decide (hx n = c15) with
        | false =>
          have hne : hx n ≠ c15 := of_decide_eq_false gx
          conv => whnf
          rw [wrap_next (n := 17) (by omega) (by decide)]
          refine ⟨n + 1, [], [], ?_, ⟨h16, fun k hk => ?_⟩, by show 16 - (n + 1) < 16 - n; omega⟩
          · repeat' (first | exact trivial | exact .inl (DLe.refl _) | exact .inl (DLe.nil _ _) | (refine .inr ⟨rfl, _, ?_, rfl⟩; rfl) | exact rfl | exact Nat.zero_le _ | constructor)
          · rcases Nat.lt_succ_iff_lt_or_eq.1 hk with h1 | rfl
            · exact hnot k h1
            · exact hne
        | true =>
          have hu : unhex c15 = some n := by rw [← of_decide_eq_true gx]; exact unhex_hx h16
          have huh : uh c15 = n := by unfold uh; rw [hu]; rfl
  
          conv => whnf
          cases g16 : decide ((n : Int) = 16) with
          | true => exact absurd (of_decide_eq_true g16) (by omega)
          | false =>
          conv => whnf
          refine ⟨by decide, ?_⟩
          conv => whnf
          refine ⟨by decide, ?_⟩
          conv => whnf
          refine ⟨by decide, ?_⟩
          conv => whnf
          refine ⟨by decide, ?_⟩
          conv => whnf
          rw [u8_app0 n hn]
          refine ⟨16, [], [], ?_, ⟨by decide, hstep (by show (unhex c15).isSome = true; rw [hu]; rfl)⟩, by decide⟩
          dsimp only
          rw [show moL [c0, c1, c2, c3, c4, c5, c6, c7, c8, c9, c10, c11, c12, c13, c14, c15, c16] 16 = [uh c0 * 16 + uh c1, uh c3 * 16 + uh c4, uh c6 * 16 + uh c7, uh c9 * 16 + uh c10, uh c12 * 16 + uh c13, uh c15] from rfl, huh]
          repeat' (first | exact trivial | exact .inl (DLe.refl _) | exact .inl (DLe.nil _ _) | (refine .inr ⟨rfl, _, ?_, rfl⟩; rfl) | exact rfl | exact Nat.zero_le _ | constructor)
      · obtain rfl : n = 16 := by omega
        have hu : unhex c15 = none := unhex_no hnot
        rw [hno (by show (unhex c15).isSome = false; rw [hu]; rfl)]
        conv => whnf
        rfl
    · have hci : c16 < 256 := hl.get (n := 16) rfl
      have hstep : okAt [c0, c1, c2, c3, c4, c5, c6, c7, c8, c9, c10, c11, c12, c13, c14, c15, c16] 16 = true → ∀ t, t < 17 → okAt [c0, c1, c2, c3, c4, c5, c6, c7, c8, c9, c10, c11, c12, c13, c14, c15, c16] t = true := ok_next hok
      have hno : okAt [c0, c1, c2, c3, c4, c5, c6, c7, c8, c9, c10, c11, c12, c13, c14, c15, c16] 16 = false → rMac [c0, c1, c2, c3, c4, c5, c6, c7, c8, c9, c10, c11, c12, c13, c14, c15, c16] = none := rMac_no (by decide)
      dsimp only
      rw [show moL [c0, c1, c2, c3, c4, c5, c6, c7, c8, c9, c10, c11, c12, c13, c14, c15, c16] 16 = [uh c0 * 16 + uh c1, uh c3 * 16 + uh c4, uh c6 * 16 + uh c7, uh c9 * 16 + uh c10, uh c12 * 16 + uh c13, uh c15] from rfl]
      conv => whnf
      refine ⟨by decide, ?_⟩
      conv => whnf
      refine ⟨Nat, fun n => ⟨[(6, intD n), (5, intD (16 : Nat)), (4, .loc 1 0), (2, .loc 0 0), (0, strD [c0, c1, c2, c3, c4, c5, c6, c7, c8, c9, c10, c11, c12, c13, c14, c15, c16])], [(1, .cells 33 (macD [uh c0 * 16 + uh c1, uh c3 * 16 + uh c4, uh c6 * 16 + uh c7, uh c9 * 16 + uh c10, uh c12 * 16 + uh c13, uh c15])), (0, .cells 33 (macD zero6))], 2, ([], 0)⟩,
        fun n => n ≤ 16 ∧ ∀ k, k < n → hx k ≠ c16, fun n => 16 - n, ⟨0, [], [], ?_, Nat.zero_le _, fun k h => absurd h (Nat.not_lt_zero _)⟩, ?_⟩
      · repeat' (first | exact trivial | exact .inl (DLe.refl _) | exact .inl (DLe.nil _ _) | (refine .inr ⟨rfl, _, ?_, rfl⟩; rfl) | exact rfl | exact Nat.zero_le _ | constructor)
      rintro n ⟨hn, hnot⟩
      have hn : n ≤ 16 := hn
      by_cases h16 : n < 16
      · have hf := figure_at n h16 (x := IntKind.u8.wrap (n : Int)) (u8_small (by omega))
        have hn := h16
        conv => whnf
        refine Fork.intro (fun g => ?_) (fun g => absurd (of_decide_eq_false g) (by omega))
        conv => whnf
        refine ⟨⟨by decide, by decide, by rw [strB_size]; show _ ≤ ((17 : Nat) : Int); decide⟩, ?_⟩
        rw [show (strB [c0, c1, c2, c3, c4, c5, c6, c7, c8, c9, c10, c11, c12, c13, c14, c15, c16]).extract ((16 : Nat) : Int).toNat (IntKind.i64.wrap (((16 : Nat) : Int) + 1)).toNat = strB [c16] from str_at (i := 16) rfl]
        conv => whnf
        refine CallVC.pure hf rfl ?_
        rintro _ rfl
        conv => whnf
        rw [figure_ne h16 hci]
        cases gx : decide (hx n = c16) with
        | false =>
          have hne : hx n ≠ c16 := of_decide_eq_false gx
          conv => whnf
          rw [wrap_next (n := 17) (by omega) (by decide)]
          refine ⟨n + 1, [], [], ?_, ⟨h16, fun k hk => ?_⟩, by show 16 - (n + 1) < 16 - n; omega⟩
          · repeat' (first | exact trivial | exact .inl (DLe.refl _) | exact .inl (DLe.nil _ _) | (refine .inr ⟨rfl, _, ?_, rfl⟩; rfl) | exact rfl | exact Nat.zero_le _ | constructor)
          · rcases Nat.lt_succ_iff_lt_or_eq.1 hk with h1 | rfl
            · exact hnot k h1
            · exact hne
        | true =>
          have hu : unhex c16 = some n := by rw [← of_decide_eq_true gx]; exact unhex_hx h16
          have huh : uh c16 = n := by unfold uh; rw [hu]; rfl
          have hu0 : uh c15 < 16 := by
            have h9 := hok 15 (by decide)
            have h9 : (unhex c15).isSome = true := h9
            cases h8 : unhex c15 with
            | none => rw [h8] at h9; cases h9
            | some k => unfold uh; rw [h8]; exact (unhex_some h8).1

          conv => whnf
          cases g16 : decide ((n : Int) = 16) with
          | true => exact absurd (of_decide_eq_true g16) (by omega)
          | false =>
          conv => whnf
          refine ⟨by decide, ?_⟩
          conv => whnf
          refine ⟨by decide, ?_⟩
          conv => whnf
          refine ⟨by decide, ?_⟩
          conv => whnf
          refine ⟨by decide, ?_⟩
          conv => whnf
          rw [u8_app (uh c15) n hu0 hn]
          refine ⟨17, [], [], ?_, ⟨by decide, hstep (by show (unhex c16).isSome = true; rw [hu]; rfl)⟩, by decide⟩
          dsimp only
          rw [show moL [c0, c1, c2, c3, c4, c5, c6, c7, c8, c9, c10, c11, c12, c13, c14, c15, c16] 17 = [uh c0 * 16 + uh c1, uh c3 * 16 + uh c4, uh c6 * 16 + uh c7, uh c9 * 16 + uh c10, uh c12 * 16 + uh c13, uh c15 * 16 + uh c16] from rfl, huh]
          repeat' (first | exact trivial | exact .inl (DLe.refl _) | exact .inl (DLe.nil _ _) | (refine .inr ⟨rfl, _, ?_, rfl⟩; rfl) | exact rfl | exact Nat.zero_le _ | constructor)
      · obtain rfl : n = 16 := by omega
        have hu : unhex c16 = none := unhex_no hnot
        rw [hno (by show (unhex c16).isSome = false; rw [hu]; rfl)]
        conv => whnf
        rfl
    · rw [rMac_yes rfl hok]
      conv => whnf
      rfl
end Go.Proofs.YtbhmnloklpdmiaaDoor.V
