/-
  The document's slots, by value: deeds. Conditions: flows' numbers are of their kinds, rows not too long.
-/
import Derived.Test.YtcbpdjikdohegaaYn
namespace Go.Proofs.Ytcbpdjikdohegaa.V
open Go.RowKit
attribute [local irreducible] Fn FnN OpVC Ob ObS NewS

theorem in_fn (n : Int) : Fn Try.prog 26 [intD n, intD 1, intD 256] fun d => d = intD (slN n) := by
  refine fnOf [] Try.func26 rfl (by kernel_rfl) (Nat.le_of_ble_eq_true rfl) ?_
  have e : min (max n 1) 256 = (slN n : Int) := by unfold slN; omega
  conv => whnf
  refine Fork.intro (fun h => ?_) (fun h => ?_)
  · have := of_decide_eq_true h
    conv => whnf
    rw [show ((slN n : Nat) : Int) = 1 by omega]
  · have := of_decide_eq_false h
    conv => whnf
    refine Fork.intro (fun h => ?_) (fun h => ?_)
    · have := of_decide_eq_true h
      conv => whnf
      rw [show ((slN n : Nat) : Int) = 256 by omega]
    · have := of_decide_eq_false h
      conv => whnf
      rw [show ((slN n : Nat) : Int) = n by omega]

abbrev rX (N : Nat) (S : List En) : List D := [intD N, rowsN S]
abbrev isFl (f : Fl) (x : En) : Bool := decide (x.f = f)
theorem rfind_fn (N : Nat) (S : List En) (hS : S.length ≤ 1000) (f : Fl) : FnN Try.prog 18 [.fp (rX N S), .agg (flD f)] fun d => d = intD (findI (isFl f) S) := by
  refine fnNOf [] Try.func18 rfl (by kernel_rfl) (Nat.le_of_ble_eq_true rfl) ?_
  conv => whnf
  refine ⟨Nat, fun k => ⟨[(5, intD k), (3, .loc 0 0), (0, .fp (rX N S))], [(0, .cells 29 (flD f))], 1, ([], 0)⟩,
    fun k => k ≤ S.length ∧ ∀ (j : Nat) u, j < k → S[j]? = some u → isFl f u = false, fun k => S.length - k, ⟨0, [], [], ?_, Nat.zero_le _, fun j u h => by omega⟩, ?_⟩
  · repeat' (first | exact trivial | exact .inl (DLe.refl _) | exact .inl (DLe.nil _ _) | (refine .inr ⟨rfl, _, ?_, rfl⟩; rfl) | exact rfl | exact Nat.zero_le _ | constructor)
  · rintro k ⟨hk, hno⟩
    conv => whnf
    cases g1 : decide ((k : Int) < S.length) with
    | true =>
      have hlt : k < S.length := by have := of_decide_eq_true g1; omega
      obtain ⟨x, hx⟩ : ∃ x, S[k]? = some x := ⟨_, List.getElem?_eq_getElem hlt⟩
      conv => whnf
      refine ⟨rfl, ⟨by omega, by omega⟩, fun y hy => ?_⟩
      obtain rfl : y = x := by rw [Int.toNat_natCast, hx] at hy; injection hy with hy; exact hy.symm
      conv => whnf
      refine ⟨eqFlOk, rfl, ?_⟩
      conv => whnf
      refine Fork.intro (fun hfk => ?_) (fun hfk => ?_)
      · have g3 : isFl f y = true := (eq_fl y.f f).symm.trans hfk
        conv => whnf
        refine ⟨rfl, ?_⟩
        rw [findI_at hx g3 hno]
      · have g3 : isFl f y = false := (eq_fl y.f f).symm.trans hfk
        conv => whnf
        rw [wrap_next (show k < 1000 by omega) (by omega)]
        refine ⟨k + 1, [], [], ?_, ⟨hlt, no_next hx g3 hno⟩, by show S.length - (k + 1) < S.length - k; omega⟩
        repeat' (first | exact trivial | exact .inl (DLe.refl _) | exact .inl (DLe.nil _ _) | (refine .inr ⟨rfl, _, ?_, rfl⟩; rfl) | exact rfl | exact Nat.zero_le _ | constructor)
    | false =>
      have hge := of_decide_eq_false g1
      conv => whnf
      refine ⟨rfl, ?_⟩
      rw [findI_none (fun j u hj => hno j u (by omega))]

theorem eqEnOk : eqOk Try.prog 46 [1, 1, 1, 1, 1, 1, 1, 1, 2, 2, 1, 1, 1] = true := by kernel_rfl
theorem eq_en (a b : En) : eqD (enD a) (enD b) = decide (a = b) := by
  obtain ⟨⟨a1, a2, a3, a4, a5⟩, a6, a7, a8, a9, a10, a11, a12, a13⟩ := a
  obtain ⟨⟨b1, b2, b3, b4, b5⟩, b6, b7, b8, b9, b10, b11, b12, b13⟩ := b
  show (eqD _ _) = _
  simp only [enD, flD, List.cons_append, List.nil_append, eqD, Bool.and_true]
  rw [Bool.eq_iff_iff]
  simp [En.mk.injEq, Fl.mk.injEq, and_assoc]
theorem same_fn (a b : List En) (ha : a.length ≤ 1000000) : Fn Try.prog 40 [rowsN a, rowsN b] fun d => d = boolD (decide (a = b)) := by
  refine fnOf [] Try.func40 rfl (by kernel_rfl) (Nat.le_of_ble_eq_true rfl) ?_
  conv => whnf
  cases g0 : (!decide ((a.length : Int) = b.length)) with
  | true =>
    have : decide ((a.length : Int) = b.length) = false := by simpa using g0
    have := of_decide_eq_false this
    conv => whnf
    rw [decide_eq_false (fun h => this (by rw [h]))]
  | false =>
    have : decide ((a.length : Int) = b.length) = true := by simpa using g0
    have hl := of_decide_eq_true this
    conv => whnf
    refine ⟨Nat, fun k => ⟨[(5, intD k), (1, rowsN b), (0, rowsN a)], [], 0, ([], 0)⟩, fun k => k ≤ a.length ∧ ∀ j, j < k → a[j]? = b[j]?, fun k => a.length - k, ⟨0, [], [], ?_, Nat.zero_le _, fun j h => by omega⟩, ?_⟩
    · repeat' (first | exact trivial | exact .inl (DLe.refl _) | exact .inl (DLe.nil _ _) | (refine .inr ⟨rfl, _, ?_, rfl⟩; rfl) | exact rfl | exact Nat.zero_le _ | constructor)
    · rintro k ⟨hk, hno⟩
      conv => whnf
      cases g1 : decide ((k : Int) < a.length) with
      | true =>
        have hlt : k < a.length := by have := of_decide_eq_true g1; omega
        obtain ⟨x, hx⟩ : ∃ x, a[k]? = some x := ⟨_, List.getElem?_eq_getElem hlt⟩
        obtain ⟨y, hy⟩ : ∃ y, b[k]? = some y := ⟨_, List.getElem?_eq_getElem (by omega)⟩
        conv => whnf
        refine ⟨rfl, ⟨by omega, by omega⟩, fun x' hx' => ?_⟩
        obtain rfl : x' = x := by rw [Int.toNat_natCast, hx] at hx'; injection hx' with hx'; exact hx'.symm
        conv => whnf
        refine ⟨rfl, ⟨by omega, by omega⟩, fun y' hy' => ?_⟩
        obtain rfl : y' = y := by rw [Int.toNat_natCast, hy] at hy'; injection hy' with hy'; exact hy'.symm
        conv => whnf
        refine ⟨eqEnOk, rfl, ?_⟩
        conv => whnf
        refine Fork.intro (fun hfk => ?_) (fun hfk => ?_)
        · have g3 : (!decide (x' = y')) = true := (congrArg (!·) (eq_en x' y')).symm.trans hfk
          have g3 : x' ≠ y' := by simpa using g3
          conv => whnf
          rw [decide_eq_false (fun h => g3 (by rw [h, hy] at hx; injection hx with hx; exact hx.symm))]
        · have g3 : (!decide (x' = y')) = false := (congrArg (!·) (eq_en x' y')).symm.trans hfk
          have g3 : x' = y' := by simpa using g3
          conv => whnf
          rw [wrap_next (show k < 1000000 by omega) (by omega)]
          refine ⟨k + 1, [], [], ?_, ⟨hlt, fun j hj => ?_⟩, by show a.length - (k + 1) < a.length - k; omega⟩
          · repeat' (first | exact trivial | exact .inl (DLe.refl _) | exact .inl (DLe.nil _ _) | (refine .inr ⟨rfl, _, ?_, rfl⟩; rfl) | exact rfl | exact Nat.zero_le _ | constructor)
          · by_cases hjk : j = k
            · rw [hjk, hx, hy, g3]
            · exact hno j (by omega)
      | false =>
        have hge := of_decide_eq_false g1
        have hab : a = b := List.ext_getElem? fun j => by
          by_cases hj : j < k
          · exact hno j hj
          · rw [List.getElem?_eq_none (by omega), List.getElem?_eq_none (by omega)]
        conv => whnf
        rw [decide_eq_true hab]
end Go.Proofs.Ytcbpdjikdohegaa.V
