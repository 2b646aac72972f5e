/-
  The law DiffBetween, by value. Conditions: numbers are of their types.
-/
import Derived.Test.YtghfefkmmobmgaaGgK
namespace Go.Proofs.Ytghfefkmmobmgaa.V
open Go.RowKit
attribute [local irreducible] Fn CallVC OpVC

theorem eqOrdOk : eqOk Try.prog 38 [1, 1, 1, 1, 1, 1, 1, 1] = true := by kernel_rfl
theorem orOrds_flat : True := trivial

theorem between_len {V W : List Vip} {B B' : List Back} {last : Int} (hV : V.length ≤ 100) (hW : W.length ≤ 100) (hB : B.length ≤ 100) (hB' : B'.length ≤ 100) {l : List Ord} (h : between V W B B' last = some l) : l.length ≤ 800 := by
  unfold between at h
  split at h
  · injection h with h
    rw [← h, numTo_len]
    have := orders_len V W B B' hV hW hB hB'
    simp only [orders, List.length_append]
    omega
  · cases h

theorem diffBetween_fn (V W : List Vip) (B B' : List Back) (last : Int) (wV : ∀ v ∈ V, v.ok) (wW : ∀ v ∈ W, v.ok) (wB : ∀ b ∈ B, b.ok) (wB' : ∀ b ∈ B', b.ok) (h0 : 0 ≤ last) :
    Fn Try.prog 4 [farmD V B, farmD W B', .v (.int .u64 last)] fun d => d = boolD true := by
  refine fnOf [(12, [0,1,3,5,2,4,6,7,8,9,10,11,12])] Try.func4 rfl (by kernel_rfl) (Nat.le_of_ble_eq_true rfl) ?_
  conv => whnf
  refine CallVC.pure (great_fn V B) rfl ?_
  rintro _ rfl
  cases h1 : (decide (10 < V.length) || decide (20 < B.length)) with
  | true =>
    conv => whnf
    refine CallVC.pure dlives_fn rfl ?_
    rintro _ rfl
    conv => whnf
  | false =>
    rw [Bool.or_eq_false_iff] at h1
    have hV : V.length ≤ 10 := by have := of_decide_eq_false h1.1; omega
    have hB : B.length ≤ 20 := by have := of_decide_eq_false h1.2; omega
    clear h1
    conv => whnf
    refine CallVC.pure (great_fn W B') rfl ?_
    rintro _ rfl
    cases h1 : (decide (10 < W.length) || decide (20 < B'.length)) with
    | true =>
      conv => whnf
      refine CallVC.pure dlives_fn rfl ?_
      rintro _ rfl
      conv => whnf
    | false =>
      rw [Bool.or_eq_false_iff] at h1
      have hW : W.length ≤ 10 := by have := of_decide_eq_false h1.1; omega
      have hB' : B'.length ≤ 20 := by have := of_decide_eq_false h1.2; omega
      clear h1
      conv => whnf
      refine CallVC.pure (between_fn V W B B' last (by omega) (by omega) (by omega) (by omega) wV wW wB wB' h0) rfl ?_
      rintro _ rfl
      have hrb := rbetween_fn V W B B' last (by omega) (by omega) (by omega) (by omega) wV wW wB wB' h0
      cases hbt : between V W B B' last with
      | none =>
        rw [hbt] at hrb
        conv => whnf
        refine CallVC.pure hrb rfl ?_
        rintro _ rfl
        conv => whnf
        refine ⟨Unit, fun _ => ⟨[(11, intD 0), (9, .v (.slice none 0 0)), (7, .v (.slice none 0 0)), (4, .loc 1 0), (3, .loc 0 0)], [(0, .cells 29 [rowsV V, rowsB B]), (1, .cells 29 [rowsV W, rowsB B'])], 2, ([], 0)⟩, fun _ => True, fun _ => 0, ⟨(), [], [], ?_, trivial⟩, ?_⟩
        · repeat' (first | exact trivial | exact .inl (DLe.refl _) | exact .inl (DLe.nil _ _) | (refine .inr ⟨rfl, _, ?_, rfl⟩; rfl) | exact rfl | exact Nat.zero_le _ | constructor)
        · intro _ _
          conv => whnf
          refine CallVC.pure (dlike_fn V W B B' (by omega) (by omega)) rfl ?_
          rintro _ rfl
          conv => whnf
          refine CallVC.pure (plainly_fn V B (by omega)) rfl ?_
          rintro _ rfl
          conv => whnf
          refine CallVC.pure (plainly_fn W B' (by omega)) rfl ?_
          rintro _ rfl
          conv => whnf
          refine CallVC.pure (sameAny_fn V W (B.map plain) (B'.map plain) (by omega) (by rw [List.length_map]; omega)) rfl ?_
          rintro _ rfl
          rw [rowsEq_map like_plain B B']
          conv => whnf
          refine Fork.intro (fun h2 => ?_) (fun h2 => ?_)
          · conv => whnf
            refine CallVC.pure dlives_fn rfl ?_
            rintro _ rfl
            conv => whnf
          · simp at h2
      | some l =>
        rw [hbt] at hrb
        have hll : l.length ≤ 800 := between_len (by omega) (by omega) (by omega) (by omega) hbt
        conv => whnf
        refine CallVC.pure hrb rfl ?_
        rintro _ rfl
        conv => whnf
        refine Fork.intro (fun h2 => by simp at h2) (fun _ => ?_)
        conv => whnf
        refine ⟨Nat, fun k => ⟨[(11, intD k), (9, rowsO l), (7, rowsO l), (4, .loc 1 0), (3, .loc 0 0)], [(0, .cells 29 [rowsV V, rowsB B]), (1, .cells 29 [rowsV W, rowsB B'])], 2, ([], 0)⟩, fun k => k ≤ l.length, fun k => l.length - k, ⟨0, [], [], ?_, Nat.zero_le _⟩, ?_⟩
        · repeat' (first | exact trivial | exact .inl (DLe.refl _) | exact .inl (DLe.nil _ _) | (refine .inr ⟨rfl, _, ?_, rfl⟩; rfl) | exact rfl | exact Nat.zero_le _ | constructor)
        · intro k hk
          conv => whnf
          refine Fork.intro (fun h2 => ?_) (fun h2 => ?_)
          · have hlt : (k : Int) < l.length := of_decide_eq_true h2
            conv => whnf
            refine ⟨rfl, ⟨by omega, hlt⟩, fun x hx => ?_⟩
            conv => whnf
            refine ⟨rfl, ⟨by omega, hlt⟩, fun x' hx' => ?_⟩
            obtain rfl : x = x' := by simpa using hx.symm.trans hx'
            conv => whnf
            refine ⟨eqOrdOk, rfl, ?_⟩
            conv => whnf
            refine Fork.intro (fun h3 => by simp [eqD] at h3) (fun _ => ?_)
            conv => whnf
            rw [wrap_next (show k < l.length by omega) (by omega)]
            refine ⟨k + 1, [], [], ?_, by show k + 1 ≤ _; omega, by show l.length - (k + 1) < l.length - k; omega⟩
            repeat' (first | exact trivial | exact .inl (DLe.refl _) | exact .inl (DLe.nil _ _) | (refine .inr ⟨rfl, _, ?_, rfl⟩; rfl) | exact rfl | exact Nat.zero_le _ | constructor)
          · conv => whnf
            refine CallVC.pure (dlike_fn V W B B' (by omega) (by omega)) rfl ?_
            rintro _ rfl
            conv => whnf
            refine CallVC.pure (plainly_fn V B (by omega)) rfl ?_
            rintro _ rfl
            conv => whnf
            refine CallVC.pure (plainly_fn W B' (by omega)) rfl ?_
            rintro _ rfl
            conv => whnf
            refine CallVC.pure (sameAny_fn V W (B.map plain) (B'.map plain) (by omega) (by rw [List.length_map]; omega)) rfl ?_
            rintro _ rfl
            rw [rowsEq_map like_plain B B']
            conv => whnf
            refine Fork.intro (fun h3 => ?_) (fun h3 => ?_)
            · conv => whnf
              refine CallVC.pure dlives_fn rfl ?_
              rintro _ rfl
              conv => whnf
            · simp at h3
end Go.Proofs.Ytghfefkmmobmgaa.V
