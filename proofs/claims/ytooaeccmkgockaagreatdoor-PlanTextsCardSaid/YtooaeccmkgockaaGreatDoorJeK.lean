/-
  Numbers read, words looked for, which orders may be written: the program's, by value. Conditions: numbers of their types.
-/
import Derived.Test.YtooaeccmkgockaaGreatDoorJdK
namespace Go.Proofs.YtooaeccmkgockaaGreatDoor.V
open Go.RowKit
attribute [local irreducible] Fn FnN OpVC

theorem str_no {s : List Nat} (hs : Byt s) {b : Bool} (h : (!((strB s).toList == (strB []).toList)) = b) : (b = true → s ≠ []) ∧ (b = false → s = []) := by
  rw [strB_beq hs .nil] at h
  subst h
  exact ⟨fun h => by simpa using h, fun h => by simpa using h⟩
theorem str_is {s t : List Nat} (hs : Byt s) (ht : Byt t) {b : Bool} (h : ((strB s).toList == (strB t).toList) = b) : (b = true → s = t) ∧ (b = false → s ≠ t) := by
  rw [strB_beq hs ht] at h
  subst h
  exact ⟨fun h => by simpa using h, fun h => by simpa using h⟩
theorem numS_next {bad : Int} {l : List Nat} {k n x : Nat} (hx : l[k]? = some x) (hs : numS bad l 0 = numS bad (l.drop k) n) : numS bad l 0 = match isDig x && !decide (65535 < n) with
    | true => numS bad (l.drop (k + 1)) (n * 10 + (x - 48))
    | false => bad := by
  have e : l.drop k = x :: l.drop (k + 1) := by
    have hk := (List.getElem?_eq_some_iff.1 hx).1
    rw [List.drop_eq_getElem_cons hk]
    congr 1
    rw [List.getElem?_eq_getElem hk] at hx
    injection hx
  rw [hs, e, numS]
  rfl
theorem numP_ne {l : List Nat} (h : l ≠ []) : numP l = numS (-1) l 0 := by
  unfold numP; split
  · rename_i h1; exact absurd rfl h
  · rfl

set_option maxHeartbeats 1000000 in
theorem number_fnP (l : List Nat) (hl : Byt l) : Fn Tryz.prog 25 [strD l] fun d => d = intD (numP l) := by
  refine fnOf [] Tryz.func25 rfl (by kernel_rfl) (Nat.le_of_ble_eq_true rfl) ?_
  conv => whnf
  refine op_rangeStr ttH rfl rfl rfl ?_
  conv => whnf
  refine ⟨Nat × Nat, fun g => ⟨[(7, .loc 0 0), (3, intD g.2), (0, strD l)], [(0, strI (strB l) g.1)], 1, ([], 0)⟩,
    fun g => g.1 ≤ l.length ∧ g.2 ≤ 655359 ∧ numS (-1) l 0 = numS (-1) (l.drop g.1) g.2, fun g => l.length - g.1, ⟨(0, 0), [], [], ?_, Nat.zero_le _, Nat.zero_le _, rfl⟩, ?_⟩
  · repeat' (first | exact trivial | exact .inl (DLe.refl _) | exact .inl (DLe.nil _ _) | (refine .inr ⟨rfl, _, ?_, rfl⟩; rfl) | exact rfl | exact Nat.zero_le _ | constructor)
  · rintro ⟨k, n⟩ ⟨hk, hn, hs⟩
    dsimp only at hk hn hs
    dsimp only
    conv => whnf
    refine op_nextStr rfl rfl rfl (fun c w hlt hd => ?_) (fun hge => ?_)
    · rw [strB_size] at hlt
      obtain ⟨x, hx⟩ : ∃ x, l[k]? = some x := ⟨_, List.getElem?_eq_getElem hlt⟩
      have hx256 := hl.get hx
      have hne : l ≠ [] := fun e => by rw [e] at hlt; simp at hlt
      have hnx := numS_next hx hs
      rw [← numP_ne hne] at hnx
      by_cases hx7 : x < 128
      · rw [decode_low hl hx hx7] at hd
        injection hd with hd1 hd2; subst hd1 hd2
        cases g1 : isDig x with
        | false =>
          rw [g1] at hnx
          rw [hnx]
          have g1' : ¬ (48 ≤ x ∧ x ≤ 57) := by
            intro h; unfold isDig at g1; rw [decide_eq_true h.1, decide_eq_true h.2] at g1; cases g1
          conv => whnf
          refine Fork.intro (fun g => ?_) (fun g => ?_)
          · conv => whnf
            rfl
          · conv => whnf
            refine Fork.intro (fun g2 => ?_) (fun g2 => absurd ⟨by have := of_decide_eq_false g; omega, by have := of_decide_eq_false g2; omega⟩ g1')
            conv => whnf
            rfl
        | true =>
          unfold isDig at g1
          simp only [Bool.and_eq_true, decide_eq_true_eq] at g1
          conv => whnf
          refine Fork.intro (fun g => absurd (of_decide_eq_true g) (by omega)) (fun g => ?_)
          conv => whnf
          refine Fork.intro (fun g => absurd (of_decide_eq_true g) (by omega)) (fun g => ?_)
          conv => whnf
          cases g2 : decide (65535 < n) with
          | true =>
            rw [g2] at hnx
            have hnx : numP l = -1 := by rw [hnx]; simp
            rw [hnx]
            refine Fork.intro (fun g => ?_) (fun g => absurd (of_decide_eq_false g) (by have := of_decide_eq_true g2; omega))
            conv => whnf
          | false =>
            rw [g2, show isDig x = true by unfold isDig; rw [decide_eq_true g1.1, decide_eq_true g1.2]; rfl] at hnx
            have g2 := of_decide_eq_false g2
            rw [numP_ne hne] at hnx
            refine Fork.intro (fun g => absurd (of_decide_eq_true g) (by omega)) (fun g => ?_)
            conv => whnf
            have e : IntKind.i64.wrap (IntKind.i64.wrap ((n : Int) * 10) + IntKind.i64.wrap (IntKind.i32.wrap ((x : Int) - 48))) = ((n * 10 + (x - 48) : Nat) : Int) := by
              rw [IntWalk.i32_in _ (by omega), IntWalk.i64_in (_ - _) (by omega), IntWalk.i64_in (_ * _) (by omega), IntWalk.i64_in _ (by omega)]; omega
            rw [e]
            refine ⟨(k + 1, n * 10 + (x - 48)), [], [], ?_, ⟨hlt, by show n * 10 + (x - 48) ≤ 655359; omega, hnx⟩, by show l.length - (k + 1) < l.length - k; omega⟩
            repeat' (first | exact trivial | exact .inl (DLe.refl _) | exact .inl (DLe.nil _ _) | (refine .inr ⟨rfl, _, ?_, rfl⟩; rfl) | exact rfl | exact Nat.zero_le _ | constructor)
      · have hc := decode_high hl hx hx7 hd
        rw [show isDig x = false by unfold isDig; rw [decide_eq_false (show ¬ x ≤ 57 by omega)]; simp] at hnx
        rw [hnx]
        conv => whnf
        refine Fork.intro (fun g => absurd (of_decide_eq_true g) (by omega)) (fun g => ?_)
        conv => whnf
        refine Fork.intro (fun g => ?_) (fun g => absurd (of_decide_eq_false g) (by omega))
        conv => whnf
        rfl
    · rw [strB_size] at hge
      obtain rfl : k = l.length := by omega
      conv => whnf
      refine Fork.intro (fun h => ?_) (fun h => ?_)
      · have h0 := (str_is hl .nil h).1 rfl
        subst h0
        conv => whnf
        rfl
      · have h0 := (str_is hl .nil h).2 rfl
        rw [numP_ne h0, hs, List.drop_length, numS]
        conv => whnf

theorem find_fnP (W : Int → List Nat) (f : FuncId) (s : List Nat) (hs : Byt s) (hW : ∀ n, Byt (W n)) (k : Nat) (hk : k ≤ 100) (hf : ∀ n : Nat, n ≤ 100 → Fn Tryz.prog f [intD n] fun d => d = strD (W n)) :
    Fn Tryz.prog 23 [strD s, intD k, .fn f [] []] fun d => d = intD (findW W s k 1) := by
  refine fnOf [] Tryz.func23 rfl (by kernel_rfl) (Nat.le_of_ble_eq_true rfl) ?_
  conv => whnf
  refine ⟨Nat, fun n => ⟨[(7, intD n), (2, .fn f [] []), (1, intD k), (0, strD s)], [], 0, ([], 0)⟩, fun n => n ≤ k + 1 ∧ findW W s k 1 = findW W s (k + 1 - n) n, fun n => k + 1 - n, ⟨1, [], [], ?_, by omega, by rw [Nat.add_sub_cancel]⟩, ?_⟩
  · repeat' (first | exact trivial | exact .inl (DLe.refl _) | exact .inl (DLe.nil _ _) | (refine .inr ⟨rfl, _, ?_, rfl⟩; rfl) | exact rfl | exact Nat.zero_le _ | constructor)
  · rintro n ⟨hn, he⟩
    dsimp only
    conv => whnf
    refine Fork.intro (fun h1 => ?_) (fun h1 => ?_)
    · have h1 := of_decide_eq_true h1
      have hn1 : IntKind.i64.wrap ((n : Int) + 1) = ((n + 1 : Nat) : Int) := wrap_next (n := 101) (by omega) (by decide)
      have e : findW W s (k + 1 - n) n = match !decide (s = []) && decide (W n = s) with
        | true => (n : Int)
        | false => findW W s (k + 1 - (n + 1)) (n + 1) := by
        rw [show k + 1 - n = (k + 1 - (n + 1)) + 1 by omega, findW]
        rfl
      conv => whnf
      refine Fork.intro (fun h2 => ?_) (fun h2 => ?_)
      · have h2 := (str_no hs h2).1 rfl
        rw [decide_eq_false h2] at e
        conv => whnf
        refine CallVC.pure (hf n (by omega)) rfl ?_
        rintro _ rfl
        conv => whnf
        refine Fork.intro (fun h3 => ?_) (fun h3 => ?_)
        · rw [decide_eq_true ((str_is (hW n) hs h3).1 rfl)] at e
          rw [he, e]
          conv => whnf
          rfl
        · rw [decide_eq_false ((str_is (hW n) hs h3).2 rfl)] at e
          have he := he.trans e
          conv => whnf
          rw [hn1]
          refine ⟨n + 1, [], [], ?_, ⟨by show n + 1 ≤ k + 1; omega, he⟩, by show k + 1 - (n + 1) < k + 1 - n; omega⟩
          repeat' (first | exact trivial | exact .inl (DLe.refl _) | exact .inl (DLe.nil _ _) | (refine .inr ⟨rfl, _, ?_, rfl⟩; rfl) | exact rfl | exact Nat.zero_le _ | constructor)
      · have h2 := (str_no hs h2).2 rfl
        rw [decide_eq_true h2] at e
        have he := he.trans e
        conv => whnf
        rw [hn1]
        refine ⟨n + 1, [], [], ?_, ⟨by show n + 1 ≤ k + 1; omega, he⟩, by show k + 1 - (n + 1) < k + 1 - n; omega⟩
        repeat' (first | exact trivial | exact .inl (DLe.refl _) | exact .inl (DLe.nil _ _) | (refine .inr ⟨rfl, _, ?_, rfl⟩; rfl) | exact rfl | exact Nat.zero_le _ | constructor)
    · have h1 := of_decide_eq_false h1
      rw [he, show k + 1 - n = 0 by omega, findW]
      conv => whnf
end Go.Proofs.YtooaeccmkgockaaGreatDoor.V
