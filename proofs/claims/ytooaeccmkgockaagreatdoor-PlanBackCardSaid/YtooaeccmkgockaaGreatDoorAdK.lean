/-
  Numbers in digits by the document, by value; bits of numbers. Conditions: numbers below 256.
-/
import Derived.Test.YtooaeccmkgockaaGreatDoorAcK
namespace Go.Proofs.YtooaeccmkgockaaGreatDoor.V
open Go.RowKit
attribute [local irreducible] Fn FnN OpVC

def numAt (n : Nat) : Nat → List Nat
  | 0 => []
  | 1 => match decide (100 ≤ n) with
    | true => [48 + n / 100]
    | false => []
  | 2 => match decide (100 ≤ n) with
    | true => [48 + n / 100, 48 + n / 10 % 10]
    | false => match decide (10 ≤ n) with
      | true => [48 + n / 10]
      | false => []
  | _ => dig n
theorem numAt_le (n k : Nat) : (numAt n k).length ≤ 3 := by
  match k with
  | 0 => exact Nat.zero_le _
  | 1 =>
    show (match decide (100 ≤ n) with | true => [48 + n / 100] | false => []).length ≤ 3
    split <;> simp
  | 2 =>
    show (match decide (100 ≤ n) with | true => [48 + n / 100, 48 + n / 10 % 10] | false => match decide (10 ≤ n) with | true => [48 + n / 10] | false => []).length ≤ 3
    split
    · simp
    · split <;> simp
  | _ + 3 => exact dig_len n

theorem numAt_1 (n : Nat) (h : n < 256) : (100 ≤ n → numAt n 1 = numAt n 0 ++ [48 + n / 100 % 10]) ∧ (¬ 100 ≤ n → numAt n 1 = numAt n 0) := by
  refine ⟨fun h1 => ?_, fun h1 => ?_⟩
  · show (match decide (100 ≤ n) with | true => [48 + n / 100] | false => []) = [] ++ [48 + n / 100 % 10]
    rw [decide_eq_true h1, show n / 100 % 10 = n / 100 by omega]; rfl
  · show (match decide (100 ≤ n) with | true => [48 + n / 100] | false => []) = []
    rw [decide_eq_false h1]
theorem numAt_2 (n : Nat) (h : n < 256) : (10 ≤ n → numAt n 2 = numAt n 1 ++ [48 + n / 10 % 10]) ∧ (¬ 10 ≤ n → numAt n 2 = numAt n 1) := by
  refine ⟨fun h1 => ?_, fun h1 => ?_⟩
  · unfold numAt
    by_cases h2 : 100 ≤ n
    · rw [decide_eq_true h2]; rfl
    · rw [decide_eq_false h2, decide_eq_true h1]
      show [48 + n / 10] = [] ++ [48 + n / 10 % 10]
      rw [show n / 10 % 10 = n / 10 by omega]; rfl
  · unfold numAt
    rw [decide_eq_false (by omega : ¬ 100 ≤ n), decide_eq_false h1]
    rfl
theorem numAt_3 (n : Nat) (h : n < 256) : numAt n 3 = numAt n 2 ++ [48 + n % 10] := by
  show dig n = _
  unfold numAt dig
  by_cases h2 : 100 ≤ n
  · rw [decide_eq_true h2, if_neg (by omega), if_neg (by omega)]; rfl
  · rw [decide_eq_false h2]
    by_cases h1 : 10 ≤ n
    · rw [decide_eq_true h1, if_neg (by omega), if_pos (by omega)]; rfl
    · rw [decide_eq_false h1, if_pos (by omega)]
      show [48 + n] = [] ++ [48 + n % 10]
      rw [show n % 10 = n by omega]; rfl

theorem number_fn (n : Nat) (h : n < 256) : Fn Tryz.prog 57 [.v (.int .i64 n)] fun d => d = strD (dig n) := by
  refine fnOf [] Tryz.func57 rfl (by kernel_rfl) (Nat.le_of_ble_eq_true rfl) ?_
  conv => whnf
  (refine ⟨by decide, ?_⟩; conv => whnf)
  refine ⟨Nat, fun k => ⟨[(8, intD k), (7, intD 3), (6, .lit 1 [[intD 100], [intD 10], [intD 1]]), (3, strD (numAt n k)), (0, intD n)], [], 0, ([], 0)⟩, fun k => k ≤ 3, fun k => 3 - k, ⟨0, [], [], ?_, Nat.zero_le _⟩, ?_⟩
  · repeat' (first | exact trivial | exact .inl (DLe.refl _) | exact .inl (DLe.nil _ _) | (refine .inr ⟨rfl, _, ?_, rfl⟩; rfl) | exact rfl | exact Nat.zero_le _ | constructor)
  · intro k hk
    have hk : k ≤ 3 := hk
    have ek : ∀ x : Nat, IntKind.u8.wrap (IntKind.i64.wrap (48 + (((x : Nat) : Int)).tmod 10)) = ((48 + x % 10 : Nat) : Int) := fun x => by
      rw [Int.tmod_eq_emod_of_nonneg (by omega), IntWalk.i64_in _ (by omega), u8_small (by omega)]; omega
    have e100 : IntKind.i64.wrap ((n : Int).tdiv 100) = ((n / 100 : Nat) : Int) := by
      rw [Int.tdiv_eq_ediv_of_nonneg (by omega), IntWalk.i64_in _ (by omega)]; omega
    have e10 : IntKind.i64.wrap ((n : Int).tdiv 10) = ((n / 10 : Nat) : Int) := by
      rw [Int.tdiv_eq_ediv_of_nonneg (by omega), IntWalk.i64_in _ (by omega)]; omega
    have e1 : IntKind.i64.wrap ((n : Int).tdiv 1) = ((n : Nat) : Int) := by
      rw [Int.tdiv_eq_ediv_of_nonneg (by omega), IntWalk.i64_in _ (by omega)]; omega
    have b100 : IntKind.u8.wrap (IntKind.i64.wrap (48 + (IntKind.i64.wrap ((n : Int).tdiv 100)).tmod 10)) = ((48 + n / 100 % 10 : Nat) : Int) := by rw [e100]; exact ek _
    have b10 : IntKind.u8.wrap (IntKind.i64.wrap (48 + (IntKind.i64.wrap ((n : Int).tdiv 10)).tmod 10)) = ((48 + n / 10 % 10 : Nat) : Int) := by rw [e10]; exact ek _
    have b1 : IntKind.u8.wrap (IntKind.i64.wrap (48 + (IntKind.i64.wrap ((n : Int).tdiv 1)).tmod 10)) = ((48 + n % 10 : Nat) : Int) := by rw [e1]; exact ek _
    have one : ∀ {s : List Nat} {x : Nat}, s.length ≤ 3 → (((strB s).size + (strB [x]).size : Nat) : Int) ≤ 9223372036854775807 := fun hs => str_le (by simp; omega)
    rcases (by omega : k = 0 ∨ k = 1 ∨ k = 2 ∨ k = 3) with rfl | rfl | rfl | rfl
    · have hl := numAt_le n 0
      conv => whnf
      refine ⟨rfl, ?_⟩
      conv => whnf
      cases g : decide ((100 : Int) ≤ n) with
      | true =>
        have hn := (numAt_1 n h).1 (by have := of_decide_eq_true g; omega)
        conv => whnf
        refine ⟨by decide, ?_⟩
        conv => whnf
        refine ⟨by decide, ?_⟩
        conv => whnf
        (refine ⟨by decide, ?_⟩; conv => whnf)
        refine op_bytesStr (L := [((48 + n / 100 % 10 : Nat) : Int)]) ttH rfl rfl rfl rfl ?_ rfl ?_
        · exact congrArg (fun x => some [[u8D x]]) b100
        rw [bytesOf_str, show [((48 + n / 100 % 10 : Nat) : Int)].map Int.toNat = [48 + n / 100 % 10] from rfl]
        conv => whnf
        refine ⟨one hl, ?_⟩
        rw [strB_append, ← hn]
        conv => whnf
        refine ⟨1, [], [], ?_, by decide, by decide⟩
        repeat' (first | exact trivial | exact .inl (DLe.refl _) | exact .inl (DLe.nil _ _) | (refine .inr ⟨rfl, _, ?_, rfl⟩; rfl) | exact rfl | exact Nat.zero_le _ | constructor)
      | false =>
        have hn := (numAt_1 n h).2 (by have := of_decide_eq_false g; omega)
        rw [← hn]
        conv => whnf
        refine ⟨1, [], [], ?_, by decide, by decide⟩
        repeat' (first | exact trivial | exact .inl (DLe.refl _) | exact .inl (DLe.nil _ _) | (refine .inr ⟨rfl, _, ?_, rfl⟩; rfl) | exact rfl | exact Nat.zero_le _ | constructor)
    · have hl := numAt_le n 1
      conv => whnf
      refine ⟨rfl, ?_⟩
      conv => whnf
      cases g : decide ((10 : Int) ≤ n) with
      | true =>
        have hn := (numAt_2 n h).1 (by have := of_decide_eq_true g; omega)
        conv => whnf
        refine ⟨by decide, ?_⟩
        conv => whnf
        refine ⟨by decide, ?_⟩
        conv => whnf
        (refine ⟨by decide, ?_⟩; conv => whnf)
        refine op_bytesStr (L := [((48 + n / 10 % 10 : Nat) : Int)]) ttH rfl rfl rfl rfl ?_ rfl ?_
        · exact congrArg (fun x => some [[u8D x]]) b10
        rw [bytesOf_str, show [((48 + n / 10 % 10 : Nat) : Int)].map Int.toNat = [48 + n / 10 % 10] from rfl]
        conv => whnf
        refine ⟨one hl, ?_⟩
        rw [strB_append, ← hn]
        conv => whnf
        refine ⟨2, [], [], ?_, by decide, by decide⟩
        repeat' (first | exact trivial | exact .inl (DLe.refl _) | exact .inl (DLe.nil _ _) | (refine .inr ⟨rfl, _, ?_, rfl⟩; rfl) | exact rfl | exact Nat.zero_le _ | constructor)
      | false =>
        have hn := (numAt_2 n h).2 (by have := of_decide_eq_false g; omega)
        rw [← hn]
        conv => whnf
        refine ⟨2, [], [], ?_, by decide, by decide⟩
        repeat' (first | exact trivial | exact .inl (DLe.refl _) | exact .inl (DLe.nil _ _) | (refine .inr ⟨rfl, _, ?_, rfl⟩; rfl) | exact rfl | exact Nat.zero_le _ | constructor)
    · have hl := numAt_le n 2
      have hn := numAt_3 n h
      conv => whnf
      refine ⟨rfl, ?_⟩
      conv => whnf
      cases g : decide ((1 : Int) ≤ n) with
      | true =>
        conv => whnf
        refine ⟨by decide, ?_⟩
        conv => whnf
        refine ⟨by decide, ?_⟩
        conv => whnf
        (refine ⟨by decide, ?_⟩; conv => whnf)
        refine op_bytesStr (L := [((48 + n % 10 : Nat) : Int)]) ttH rfl rfl rfl rfl ?_ rfl ?_
        · exact congrArg (fun x => some [[u8D x]]) b1
        rw [bytesOf_str, show [((48 + n % 10 : Nat) : Int)].map Int.toNat = [48 + n % 10] from rfl]
        conv => whnf
        refine ⟨one hl, ?_⟩
        rw [strB_append, ← hn]
        conv => whnf
        refine ⟨3, [], [], ?_, by decide, by decide⟩
        repeat' (first | exact trivial | exact .inl (DLe.refl _) | exact .inl (DLe.nil _ _) | (refine .inr ⟨rfl, _, ?_, rfl⟩; rfl) | exact rfl | exact Nat.zero_le _ | constructor)
      | false =>
        conv => whnf
        refine ⟨by decide, ?_⟩
        conv => whnf
        refine ⟨by decide, ?_⟩
        conv => whnf
        (refine ⟨by decide, ?_⟩; conv => whnf)
        refine op_bytesStr (L := [((48 + n % 10 : Nat) : Int)]) ttH rfl rfl rfl rfl ?_ rfl ?_
        · exact congrArg (fun x => some [[u8D x]]) b1
        rw [bytesOf_str, show [((48 + n % 10 : Nat) : Int)].map Int.toNat = [48 + n % 10] from rfl]
        conv => whnf
        refine ⟨one hl, ?_⟩
        rw [strB_append, ← hn]
        conv => whnf
        refine ⟨3, [], [], ?_, by decide, by decide⟩
        repeat' (first | exact trivial | exact .inl (DLe.refl _) | exact .inl (DLe.nil _ _) | (refine .inr ⟨rfl, _, ?_, rfl⟩; rfl) | exact rfl | exact Nat.zero_le _ | constructor)
    · conv => whnf
      rfl
end Go.Proofs.YtooaeccmkgockaaGreatDoor.V
