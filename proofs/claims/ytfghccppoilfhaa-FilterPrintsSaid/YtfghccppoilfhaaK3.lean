/-
  Numbers in digits, by value: the program's and the document's. Conditions: numbers below 256.
  Numbers in digits by the document, by value; bits of numbers. Conditions: numbers below 256.
  The text of an address, by value: the program's and the document's. Conditions: an address is a u32; strings.Join answers the row joined.
  Texts of addresses read, by value: the program's reading, and the document's text. Conditions: strings.Join answers the row joined.
-/
import Derived.Test.YtfghccppoilfhaaTtK
import Derived.Test.YtfghccppoilfhaaK1
import Derived.Test.YtfghccppoilfhaaK2
namespace Go.Proofs.Ytfghccppoilfhaa.V
open Go.RowKit
attribute [local irreducible] Fn FnN OpVC

abbrev u32D (n : Int) : D := .v (.int .u32 n)
abbrev u8D (n : Int) : D := .v (.int .u8 n)

theorem u32_small {n : Int} (h : 0 ≤ n ∧ n < 4294967296) : IntKind.u32.wrap n = n := by rw [u32_wrap]; omega
theorem u8_wrap' (n : Int) : IntKind.u8.wrap n = n % 256 := by rw [IntKind.wrap]; rfl
theorem u8_small {n : Int} (h : 0 ≤ n ∧ n < 256) : IntKind.u8.wrap n = n := by rw [u8_wrap']; omega

theorem str_le {a b : List Nat} (h : a.length + b.length ≤ 1000000000) : (((strB a).size + (strB b).size : Nat) : Int) ≤ 9223372036854775807 := by
  rw [strB_size, strB_size]; omega

def DigAt (n : Nat) (g : Nat × List Nat × Bool) : Prop :=
  g = (n, [], true) ∨ g = (n / 10, [48 + n % 10], decide (0 < n / 10)) ∨ (10 ≤ n ∧ g = (n / 100, [48 + n / 10 % 10, 48 + n % 10], decide (0 < n / 100))) ∨ (100 ≤ n ∧ g = (0, [48 + n / 100, 48 + n / 10 % 10, 48 + n % 10], false))
theorem DigAt.step {n m : Nat} {out : List Nat} (h : n < 256) (hg : DigAt n (m, out, true)) : m < 256 ∧ out.length ≤ 3 ∧ DigAt n (m / 10, (48 + m % 10) :: out, decide (0 < m / 10)) := by
  rcases hg with hg | hg | ⟨h1, hg⟩ | ⟨h1, hg⟩
  · injection hg with e1 e2; injection e2 with e2 e3
    subst e1 e2
    exact ⟨h, by decide, .inr (.inl rfl)⟩
  · injection hg with e1 e2; injection e2 with e2 e3
    have := of_decide_eq_true e3.symm
    subst e1 e2
    refine ⟨by omega, by simp, .inr (.inr (.inl ⟨by omega, ?_⟩))⟩
    rw [show n / 10 / 10 = n / 100 by omega]
  · injection hg with e1 e2; injection e2 with e2 e3
    have := of_decide_eq_true e3.symm
    subst e1 e2
    refine ⟨by omega, by simp, .inr (.inr (.inr ⟨by omega, ?_⟩))⟩
    rw [show n / 100 / 10 = 0 by omega, show n / 100 % 10 = n / 100 by omega]
    rfl
  · injection hg with e1 e2; injection e2 with e2 e3; cases e3
theorem DigAt.done {n m : Nat} {out : List Nat} (h : n < 256) (hg : DigAt n (m, out, false)) : out = dig n := by
  unfold dig
  rcases hg with hg | hg | ⟨h1, hg⟩ | ⟨h1, hg⟩
  · injection hg with e1 e2; injection e2 with e2 e3; cases e3
  · injection hg with e1 e2; injection e2 with e2 e3
    have := of_decide_eq_false e3.symm
    rw [e2, if_pos (by omega), show n % 10 = n by omega]
  · injection hg with e1 e2; injection e2 with e2 e3
    have := of_decide_eq_false e3.symm
    rw [e2, if_neg (by omega), if_pos (by omega), show n / 10 % 10 = n / 10 by omega]
  · injection hg with e1 e2; injection e2 with e2 e3
    rw [e2, if_neg (by omega), if_neg (by omega)]

theorem digits_fn (n : Nat) (h : n < 256) : Fn Try.prog 34 [u32D n] fun d => d = strD (dig n) := by
  refine fnOf [] Try.func34 rfl (by kernel_rfl) (Nat.le_of_ble_eq_true rfl) ?_
  conv => whnf
  refine ⟨Nat × List Nat × Bool, fun g => ⟨[(4, boolD g.2.2), (3, strD g.2.1), (0, u32D g.1)], [], 0, ([], 0)⟩,
    DigAt n, fun g => match g.2.2 with | true => g.1 + 1 | false => 0, ⟨(n, [], true), [], [], ?_, .inl rfl⟩, ?_⟩
  · repeat' (first | exact trivial | exact .inl (DLe.refl _) | exact .inl (DLe.nil _ _) | (refine .inr ⟨rfl, _, ?_, rfl⟩; rfl) | exact rfl | exact .inl rfl | exact .inr ⟨rfl, rfl, rfl, rfl⟩ | exact Nat.zero_le _ | constructor)
  · rintro ⟨m, out, ok⟩ hg
    cases ok with
    | false =>
      dsimp only
      conv => whnf
      rw [DigAt.done h hg]
    | true =>
      obtain ⟨hm, ho, hnext⟩ := DigAt.step h hg
      have e1 : IntKind.u8.wrap (IntKind.u32.wrap (48 + (m : Int).tmod 10)) = ((48 + m % 10 : Nat) : Int) := by
        rw [Int.tmod_eq_emod_of_nonneg (by omega), u32_small (by omega), u8_small (by omega)]; omega
      have e2 : IntKind.u32.wrap ((m : Int).tdiv 10) = ((m / 10 : Nat) : Int) := by
        rw [Int.tdiv_eq_ediv_of_nonneg (by omega), u32_small (by omega)]; omega
      have e3 : decide (0 < ((m / 10 : Nat) : Int)) = decide (0 < m / 10) := decide_eq_decide.2 (by omega)
      dsimp only
      conv => whnf
      refine ⟨by decide, ?_⟩
      conv => whnf
      (refine ⟨by decide, ?_⟩; conv => whnf)
      refine op_bytesStr (L := [((48 + m % 10 : Nat) : Int)]) ttH rfl rfl rfl rfl ?_ rfl ?_
      · exact congrArg (fun x => some [[u8D x]]) e1
      rw [bytesOf_str, show [((48 + m % 10 : Nat) : Int)].map Int.toNat = [48 + m % 10] from rfl]
      conv => whnf
      refine ⟨str_le (by simp; omega), ?_⟩
      rw [strB_append]
      conv => whnf
      refine ⟨by decide, ?_⟩
      conv => whnf
      rw [e2]
      conv => whnf
      rw [e3]
      refine ⟨(m / 10, (48 + m % 10) :: out, decide (0 < m / 10)), [], [], ?_, hnext, ?_⟩
      · repeat' (first | exact trivial | exact .inl (DLe.refl _) | exact .inl (DLe.nil _ _) | (refine .inr ⟨rfl, _, ?_, rfl⟩; rfl) | exact rfl | exact .inl rfl | exact .inr ⟨rfl, rfl, rfl, rfl⟩ | exact Nat.zero_le _ | constructor)
      · show (match decide (0 < m / 10) with | true => m / 10 + 1 | false => 0) < m + 1
        cases h9 : decide (0 < m / 10) with
        | true => have := of_decide_eq_true h9; show m / 10 + 1 < m + 1; omega
        | false => exact Nat.succ_pos _
end Go.Proofs.Ytfghccppoilfhaa.V
namespace Go.Proofs.Ytfghccppoilfhaa.V
open Go.RowKit
attribute [local irreducible] Fn FnN OpVC

def numAt (n : Nat) : Nat → List Nat
  | 0 => []
  | 1 => match decide (100 ≤ n) with
    | true => [48 + n / 100]
    | false => []
  | 2 => match decide (100 ≤ n) with
    | true => [48 + n / 100, 48 + n / 10 % 10]
    | false => match decide (10 ≤ n) with
      | true => [48 + n / 10]
      | false => []
  | _ => dig n
theorem numAt_le (n k : Nat) : (numAt n k).length ≤ 3 := by
  match k with
  | 0 => exact Nat.zero_le _
  | 1 =>
    show (match decide (100 ≤ n) with | true => [48 + n / 100] | false => []).length ≤ 3
    split <;> simp
  | 2 =>
    show (match decide (100 ≤ n) with | true => [48 + n / 100, 48 + n / 10 % 10] | false => match decide (10 ≤ n) with | true => [48 + n / 10] | false => []).length ≤ 3
    split
    · simp
    · split <;> simp
  | _ + 3 => exact dig_len n

theorem numAt_1 (n : Nat) (h : n < 256) : (100 ≤ n → numAt n 1 = numAt n 0 ++ [48 + n / 100 % 10]) ∧ (¬ 100 ≤ n → numAt n 1 = numAt n 0) := by
  refine ⟨fun h1 => ?_, fun h1 => ?_⟩
  · show (match decide (100 ≤ n) with | true => [48 + n / 100] | false => []) = [] ++ [48 + n / 100 % 10]
    rw [decide_eq_true h1, show n / 100 % 10 = n / 100 by omega]; rfl
  · show (match decide (100 ≤ n) with | true => [48 + n / 100] | false => []) = []
    rw [decide_eq_false h1]
theorem numAt_2 (n : Nat) (h : n < 256) : (10 ≤ n → numAt n 2 = numAt n 1 ++ [48 + n / 10 % 10]) ∧ (¬ 10 ≤ n → numAt n 2 = numAt n 1) := by
  refine ⟨fun h1 => ?_, fun h1 => ?_⟩
  · unfold numAt
    by_cases h2 : 100 ≤ n
    · rw [decide_eq_true h2]; rfl
    · rw [decide_eq_false h2, decide_eq_true h1]
      show [48 + n / 10] = [] ++ [48 + n / 10 % 10]
      rw [show n / 10 % 10 = n / 10 by omega]; rfl
  · unfold numAt
    rw [decide_eq_false (by omega : ¬ 100 ≤ n), decide_eq_false h1]
    rfl
theorem numAt_3 (n : Nat) (h : n < 256) : numAt n 3 = numAt n 2 ++ [48 + n % 10] := by
  show dig n = _
  unfold numAt dig
  by_cases h2 : 100 ≤ n
  · rw [decide_eq_true h2, if_neg (by omega), if_neg (by omega)]; rfl
  · rw [decide_eq_false h2]
    by_cases h1 : 10 ≤ n
    · rw [decide_eq_true h1, if_neg (by omega), if_pos (by omega)]; rfl
    · rw [decide_eq_false h1, if_pos (by omega)]
      show [48 + n] = [] ++ [48 + n % 10]
      rw [show n % 10 = n by omega]; rfl

theorem number_fn (n : Nat) (h : n < 256) : Fn Try.prog 28 [.v (.int .i64 n)] fun d => d = strD (dig n) := by
  refine fnOf [] Try.func28 rfl (by kernel_rfl) (Nat.le_of_ble_eq_true rfl) ?_
  conv => whnf
  (refine ⟨by decide, ?_⟩; conv => whnf)
  refine ⟨Nat, fun k => ⟨[(8, intD k), (7, intD 3), (6, .lit 1 [[intD 100], [intD 10], [intD 1]]), (3, strD (numAt n k)), (0, intD n)], [], 0, ([], 0)⟩, fun k => k ≤ 3, fun k => 3 - k, ⟨0, [], [], ?_, Nat.zero_le _⟩, ?_⟩
  · repeat' (first | exact trivial | exact .inl (DLe.refl _) | exact .inl (DLe.nil _ _) | (refine .inr ⟨rfl, _, ?_, rfl⟩; rfl) | exact rfl | exact .inl rfl | exact .inr ⟨rfl, rfl, rfl, rfl⟩ | exact Nat.zero_le _ | constructor)
  · intro k hk
    have hk : k ≤ 3 := hk
    have ek : ∀ x : Nat, IntKind.u8.wrap (IntKind.i64.wrap (48 + (((x : Nat) : Int)).tmod 10)) = ((48 + x % 10 : Nat) : Int) := fun x => by
      rw [Int.tmod_eq_emod_of_nonneg (by omega), IntWalk.i64_in _ (by omega), u8_small (by omega)]; omega
    have e100 : IntKind.i64.wrap ((n : Int).tdiv 100) = ((n / 100 : Nat) : Int) := by
      rw [Int.tdiv_eq_ediv_of_nonneg (by omega), IntWalk.i64_in _ (by omega)]; omega
    have e10 : IntKind.i64.wrap ((n : Int).tdiv 10) = ((n / 10 : Nat) : Int) := by
      rw [Int.tdiv_eq_ediv_of_nonneg (by omega), IntWalk.i64_in _ (by omega)]; omega
    have e1 : IntKind.i64.wrap ((n : Int).tdiv 1) = ((n : Nat) : Int) := by
      rw [Int.tdiv_eq_ediv_of_nonneg (by omega), IntWalk.i64_in _ (by omega)]; omega
    have b100 : IntKind.u8.wrap (IntKind.i64.wrap (48 + (IntKind.i64.wrap ((n : Int).tdiv 100)).tmod 10)) = ((48 + n / 100 % 10 : Nat) : Int) := by rw [e100]; exact ek _
    have b10 : IntKind.u8.wrap (IntKind.i64.wrap (48 + (IntKind.i64.wrap ((n : Int).tdiv 10)).tmod 10)) = ((48 + n / 10 % 10 : Nat) : Int) := by rw [e10]; exact ek _
    have b1 : IntKind.u8.wrap (IntKind.i64.wrap (48 + (IntKind.i64.wrap ((n : Int).tdiv 1)).tmod 10)) = ((48 + n % 10 : Nat) : Int) := by rw [e1]; exact ek _
    have one : ∀ {s : List Nat} {x : Nat}, s.length ≤ 3 → (((strB s).size + (strB [x]).size : Nat) : Int) ≤ 9223372036854775807 := fun hs => str_le (by simp; omega)
    rcases (by omega : k = 0 ∨ k = 1 ∨ k = 2 ∨ k = 3) with rfl | rfl | rfl | rfl
    · have hl := numAt_le n 0
      conv => whnf
      refine ⟨rfl, ?_⟩
      conv => whnf
      cases g : decide ((100 : Int) ≤ n) with
      | true =>
        have hn := (numAt_1 n h).1 (by have := of_decide_eq_true g; omega)
        conv => whnf
        refine ⟨by decide, ?_⟩
        conv => whnf
        refine ⟨by decide, ?_⟩
        conv => whnf
        (refine ⟨by decide, ?_⟩; conv => whnf)
        refine op_bytesStr (L := [((48 + n / 100 % 10 : Nat) : Int)]) ttH rfl rfl rfl rfl ?_ rfl ?_
        · exact congrArg (fun x => some [[u8D x]]) b100
        rw [bytesOf_str, show [((48 + n / 100 % 10 : Nat) : Int)].map Int.toNat = [48 + n / 100 % 10] from rfl]
        conv => whnf
        refine ⟨one hl, ?_⟩
        rw [strB_append, ← hn]
        conv => whnf
        refine ⟨1, [], [], ?_, by decide, by decide⟩
        repeat' (first | exact trivial | exact .inl (DLe.refl _) | exact .inl (DLe.nil _ _) | (refine .inr ⟨rfl, _, ?_, rfl⟩; rfl) | exact rfl | exact .inl rfl | exact .inr ⟨rfl, rfl, rfl, rfl⟩ | exact Nat.zero_le _ | constructor)
      | false =>
        have hn := (numAt_1 n h).2 (by have := of_decide_eq_false g; omega)
        rw [← hn]
        conv => whnf
        refine ⟨1, [], [], ?_, by decide, by decide⟩
        repeat' (first | exact trivial | exact .inl (DLe.refl _) | exact .inl (DLe.nil _ _) | (refine .inr ⟨rfl, _, ?_, rfl⟩; rfl) | exact rfl | exact .inl rfl | exact .inr ⟨rfl, rfl, rfl, rfl⟩ | exact Nat.zero_le _ | constructor)
    · have hl := numAt_le n 1
      conv => whnf
      refine ⟨rfl, ?_⟩
      conv => whnf
      cases g : decide ((10 : Int) ≤ n) with
      | true =>
        have hn := (numAt_2 n h).1 (by have := of_decide_eq_true g; omega)
        conv => whnf
        refine ⟨by decide, ?_⟩
        conv => whnf
        refine ⟨by decide, ?_⟩
        conv => whnf
        (refine ⟨by decide, ?_⟩; conv => whnf)
        refine op_bytesStr (L := [((48 + n / 10 % 10 : Nat) : Int)]) ttH rfl rfl rfl rfl ?_ rfl ?_
        · exact congrArg (fun x => some [[u8D x]]) b10
        rw [bytesOf_str, show [((48 + n / 10 % 10 : Nat) : Int)].map Int.toNat = [48 + n / 10 % 10] from rfl]
        conv => whnf
        refine ⟨one hl, ?_⟩
        rw [strB_append, ← hn]
        conv => whnf
        refine ⟨2, [], [], ?_, by decide, by decide⟩
        repeat' (first | exact trivial | exact .inl (DLe.refl _) | exact .inl (DLe.nil _ _) | (refine .inr ⟨rfl, _, ?_, rfl⟩; rfl) | exact rfl | exact .inl rfl | exact .inr ⟨rfl, rfl, rfl, rfl⟩ | exact Nat.zero_le _ | constructor)
      | false =>
        have hn := (numAt_2 n h).2 (by have := of_decide_eq_false g; omega)
        rw [← hn]
        conv => whnf
        refine ⟨2, [], [], ?_, by decide, by decide⟩
        repeat' (first | exact trivial | exact .inl (DLe.refl _) | exact .inl (DLe.nil _ _) | (refine .inr ⟨rfl, _, ?_, rfl⟩; rfl) | exact rfl | exact .inl rfl | exact .inr ⟨rfl, rfl, rfl, rfl⟩ | exact Nat.zero_le _ | constructor)
    · have hl := numAt_le n 2
      have hn := numAt_3 n h
      conv => whnf
      refine ⟨rfl, ?_⟩
      conv => whnf
      cases g : decide ((1 : Int) ≤ n) with
      | true =>
        conv => whnf
        refine ⟨by decide, ?_⟩
        conv => whnf
        refine ⟨by decide, ?_⟩
        conv => whnf
        (refine ⟨by decide, ?_⟩; conv => whnf)
        refine op_bytesStr (L := [((48 + n % 10 : Nat) : Int)]) ttH rfl rfl rfl rfl ?_ rfl ?_
        · exact congrArg (fun x => some [[u8D x]]) b1
        rw [bytesOf_str, show [((48 + n % 10 : Nat) : Int)].map Int.toNat = [48 + n % 10] from rfl]
        conv => whnf
        refine ⟨one hl, ?_⟩
        rw [strB_append, ← hn]
        conv => whnf
        refine ⟨3, [], [], ?_, by decide, by decide⟩
        repeat' (first | exact trivial | exact .inl (DLe.refl _) | exact .inl (DLe.nil _ _) | (refine .inr ⟨rfl, _, ?_, rfl⟩; rfl) | exact rfl | exact .inl rfl | exact .inr ⟨rfl, rfl, rfl, rfl⟩ | exact Nat.zero_le _ | constructor)
      | false =>
        conv => whnf
        refine ⟨by decide, ?_⟩
        conv => whnf
        refine ⟨by decide, ?_⟩
        conv => whnf
        (refine ⟨by decide, ?_⟩; conv => whnf)
        refine op_bytesStr (L := [((48 + n % 10 : Nat) : Int)]) ttH rfl rfl rfl rfl ?_ rfl ?_
        · exact congrArg (fun x => some [[u8D x]]) b1
        rw [bytesOf_str, show [((48 + n % 10 : Nat) : Int)].map Int.toNat = [48 + n % 10] from rfl]
        conv => whnf
        refine ⟨one hl, ?_⟩
        rw [strB_append, ← hn]
        conv => whnf
        refine ⟨3, [], [], ?_, by decide, by decide⟩
        repeat' (first | exact trivial | exact .inl (DLe.refl _) | exact .inl (DLe.nil _ _) | (refine .inr ⟨rfl, _, ?_, rfl⟩; rfl) | exact rfl | exact .inl rfl | exact .inr ⟨rfl, rfl, rfl, rfl⟩ | exact Nat.zero_le _ | constructor)
    · conv => whnf
      rfl
end Go.Proofs.Ytfghccppoilfhaa.V
namespace Go.Proofs.Ytfghccppoilfhaa.V
open Go.RowKit
attribute [local irreducible] Fn FnN OpVC

theorem bv32_and (x y : Nat) (hx : x < 4294967296) (hy : y < 4294967296) : (BitVec.ofInt 32 (x : Int) &&& BitVec.ofInt 32 (y : Int)).toNat = x &&& y := by
  rw [BitVec.toNat_and, BitVec.toNat_ofInt, BitVec.toNat_ofInt]
  congr 1 <;> omega
theorem bv32_or (x y : Nat) (hx : x < 4294967296) (hy : y < 4294967296) : (BitVec.ofInt 32 (x : Int) ||| BitVec.ofInt 32 (y : Int)).toNat = x ||| y := by
  rw [BitVec.toNat_or, BitVec.toNat_ofInt, BitVec.toNat_ofInt]
  congr 1 <;> omega
theorem u32_byte (x : Nat) (hx : x < 4294967296) : IntKind.u32.wrap (((BitVec.ofInt IntKind.u32.bits (x : Int) &&& BitVec.ofInt IntKind.u32.bits 255).toNat : Nat) : Int) = ((x % 256 : Nat) : Int) := by
  have := bv32_and x 255 hx (by decide)
  rw [show (BitVec.ofInt IntKind.u32.bits (x : Int) &&& BitVec.ofInt IntKind.u32.bits 255).toNat = x &&& 255 from this]
  rw [show x &&& 255 = x % 256 from Nat.and_two_pow_sub_one_eq_mod x 8]
  exact u32_small (by omega)
theorem u32_put (a n : Nat) (ha : a < 16777216) (hn : n < 256) : IntKind.u32.wrap (((BitVec.ofInt IntKind.u32.bits (IntKind.u32.wrap ((a : Int) * 2 ^ (min (8 : Int).toNat IntKind.u32.bits))) ||| BitVec.ofInt IntKind.u32.bits (n : Int)).toNat : Nat) : Int) = ((a * 256 + n : Nat) : Int) := by
  have e : IntKind.u32.wrap ((a : Int) * 2 ^ (min (8 : Int).toNat IntKind.u32.bits)) = ((a * 256 : Nat) : Int) := by
    show IntKind.u32.wrap ((a : Int) * 256) = _
    rw [u32_small (by omega)]; omega
  rw [e]
  have := bv32_or (a * 256) n (by omega) (by omega)
  rw [show (BitVec.ofInt IntKind.u32.bits ((a * 256 : Nat) : Int) ||| BitVec.ofInt IntKind.u32.bits (n : Int)).toNat = a * 256 ||| n from this]
  rw [show a * 256 ||| n = a * 256 + n by
    have := Nat.two_pow_add_eq_or_of_lt (i := 8) (b := n) hn a
    rw [Nat.mul_comm] at this; exact this.symm]
  exact u32_small (by omega)
theorem shr_at (x k : Nat) : (x : Int).fdiv (2 ^ k) = ((x / 2 ^ k : Nat) : Int) := by
  rw [Int.fdiv_eq_ediv_of_nonneg _ (Int.le_of_lt (Int.pow_pos (by decide)))]
  simp

abbrev strE : List Nat → List D := fun l => [strD l]
abbrev rowsT (L : List (List Nat)) : D := .rows (List Nat) 1 strE L
def joinN (sep : List Nat) (L : List (List Nat)) : List Nat := sep.intercalate L
def JoinC : Prop := ∀ (L : List (List Nat)) (sep : List Nat), (∀ x, x ∈ L → Byt x) → Byt sep → L.length ≤ 1000 → (joinN sep L).length ≤ 1000000 → FnN Try.prog 35 [rowsT L, strD sep] fun d => d = strD (joinN sep L)

def shiftOf : Nat → Int
  | 0 => 24
  | 1 => 16
  | 2 => 8
  | 3 => 0
  | _ => -8
def parts4 (a : Nat) : List (List Nat) := [dig (a / 16777216 % 256), dig (a / 65536 % 256), dig (a / 256 % 256), dig (a % 256)]
theorem join4_eq (a : Nat) : joinN [46] (parts4 a) = txt a := by
  simp [joinN, parts4, txt, join4, List.intercalate]

theorem text_fn (hj : JoinC) (a : Nat) (ha : a < 4294967296) : Fn Try.prog 24 [u32D a] fun d => d = strD (txt a) := by
  refine fnOf [] Try.func24 rfl (by kernel_rfl) (Nat.le_of_ble_eq_true rfl) ?_
  have hb : ∀ n : Nat, Byt (dig (n % 256)) := fun n => dig_byt (Nat.mod_lt _ (by decide))
  have hjoin := hj (parts4 a) [46] (fun x hx => by
    simp [parts4] at hx
    rcases hx with rfl | rfl | rfl | rfl <;> exact hb _) (.cons (by decide) .nil) (by show 4 ≤ 1000; decide) (by rw [join4_eq]; have := txt_len a; omega)
  rw [join4_eq] at hjoin
  conv => whnf
  refine ⟨Nat, fun k => ⟨[(4, intD (shiftOf k)), (3, .grow 0), (0, u32D a)], [(0, .grow (List Nat) 9 1 strE ((parts4 a).take k))], 1, ([], 0)⟩, fun k => k ≤ 4, fun k => 4 - k, ⟨0, [], [0], ?_, Nat.zero_le _⟩, ?_⟩
  · repeat' (first | exact trivial | exact .inl (DLe.refl _) | exact .inl (DLe.nil _ _) | (refine .inr ⟨rfl, _, ?_, rfl⟩; rfl) | exact rfl | exact .inl rfl | exact .inr ⟨rfl, rfl, rfl, rfl⟩ | exact Nat.zero_le _ | constructor)
  · intro k hk
    have hk : k ≤ 4 := hk
    have step : ∀ (m : Nat) (x : Int), x = ((m : Nat) : Int) → m < 4294967296 → IntKind.u32.wrap (((BitVec.ofInt IntKind.u32.bits x &&& BitVec.ofInt IntKind.u32.bits 255).toNat : Nat) : Int) = ((m % 256 : Nat) : Int) := by
      rintro m _ rfl h; exact u32_byte m h
    have hap : ∀ {L : List (List Nat)} {x : List Nat}, L.length ≤ 3 → L.length + 1 ≤ 1099511627776 := fun h => by omega
    have hap : ∀ {L : List (List Nat)} {x : List Nat}, L.length ≤ 3 → L.length + 1 ≤ 1099511627776 := fun h => by omega
    rcases (by omega : k = 0 ∨ k = 1 ∨ k = 2 ∨ k = 3 ∨ k = 4) with rfl | rfl | rfl | rfl | rfl
    · have e : IntKind.u32.wrap (((BitVec.ofInt IntKind.u32.bits ((a : Int).fdiv (2 ^ 24)) &&& BitVec.ofInt IntKind.u32.bits 255).toNat : Nat) : Int) = ((a / 16777216 % 256 : Nat) : Int) := step (a / 16777216) _ (shr_at a 24) (by omega)
      have hl : (parts4 a).take 1 = (parts4 a).take 0 ++ [dig (a / 16777216 % 256)] := rfl
      conv => whnf
      refine ⟨by decide, ?_⟩
      conv => whnf
      refine CallVC.pure (Q := fun d => d = strD (dig (a / 16777216 % 256))) ?_ rfl ?_
      · exact (congrArg (fun z => Fn Try.prog 34 [u32D z] fun d => d = strD (dig (a / 16777216 % 256))) e).mpr (digits_fn (a / 16777216 % 256) (Nat.mod_lt _ (by decide)))
      rintro _ rfl
      conv => whnf
      (refine ⟨by decide, ?_⟩; conv => whnf)
      refine ⟨List Nat, strE, (parts4 a).take 0 ++ [dig (a / 16777216 % 256)], (by rw [List.map_append]; rfl), fun _ => rfl, by show 1 + 0 ≤ _; decide, by show (1 + 0) * 16 ≤ _; decide, rfl, ?_⟩
      rw [← hl]
      conv => whnf
      refine ⟨1, [(0, 1)], [], ?_, by decide, by decide⟩
      repeat' (first | exact trivial | exact .inl (DLe.refl _) | exact .inl (DLe.nil _ _) | (refine .inr ⟨rfl, _, ?_, rfl⟩; rfl) | exact rfl | exact .inl rfl | exact .inr ⟨rfl, rfl, rfl, rfl⟩ | exact Nat.zero_le _ | constructor)
    · have e : IntKind.u32.wrap (((BitVec.ofInt IntKind.u32.bits ((a : Int).fdiv (2 ^ 16)) &&& BitVec.ofInt IntKind.u32.bits 255).toNat : Nat) : Int) = ((a / 65536 % 256 : Nat) : Int) := step (a / 65536) _ (shr_at a 16) (by omega)
      have hl : (parts4 a).take 2 = (parts4 a).take 1 ++ [dig (a / 65536 % 256)] := rfl
      conv => whnf
      refine ⟨by decide, ?_⟩
      conv => whnf
      refine CallVC.pure (Q := fun d => d = strD (dig (a / 65536 % 256))) ?_ rfl ?_
      · exact (congrArg (fun z => Fn Try.prog 34 [u32D z] fun d => d = strD (dig (a / 65536 % 256))) e).mpr (digits_fn (a / 65536 % 256) (Nat.mod_lt _ (by decide)))
      rintro _ rfl
      conv => whnf
      (refine ⟨by decide, ?_⟩; conv => whnf)
      refine ⟨List Nat, strE, (parts4 a).take 1 ++ [dig (a / 65536 % 256)], (by rw [List.map_append]; rfl), fun _ => rfl, by show 1 + 1 ≤ _; decide, by show (1 + 1) * 16 ≤ _; decide, rfl, ?_⟩
      rw [← hl]
      conv => whnf
      refine ⟨2, [(0, 1)], [], ?_, by decide, by decide⟩
      repeat' (first | exact trivial | exact .inl (DLe.refl _) | exact .inl (DLe.nil _ _) | (refine .inr ⟨rfl, _, ?_, rfl⟩; rfl) | exact rfl | exact .inl rfl | exact .inr ⟨rfl, rfl, rfl, rfl⟩ | exact Nat.zero_le _ | constructor)
    · have e : IntKind.u32.wrap (((BitVec.ofInt IntKind.u32.bits ((a : Int).fdiv (2 ^ 8)) &&& BitVec.ofInt IntKind.u32.bits 255).toNat : Nat) : Int) = ((a / 256 % 256 : Nat) : Int) := step (a / 256) _ (shr_at a 8) (by omega)
      have hl : (parts4 a).take 3 = (parts4 a).take 2 ++ [dig (a / 256 % 256)] := rfl
      conv => whnf
      refine ⟨by decide, ?_⟩
      conv => whnf
      refine CallVC.pure (Q := fun d => d = strD (dig (a / 256 % 256))) ?_ rfl ?_
      · exact (congrArg (fun z => Fn Try.prog 34 [u32D z] fun d => d = strD (dig (a / 256 % 256))) e).mpr (digits_fn (a / 256 % 256) (Nat.mod_lt _ (by decide)))
      rintro _ rfl
      conv => whnf
      (refine ⟨by decide, ?_⟩; conv => whnf)
      refine ⟨List Nat, strE, (parts4 a).take 2 ++ [dig (a / 256 % 256)], (by rw [List.map_append]; rfl), fun _ => rfl, by show 1 + 2 ≤ _; decide, by show (1 + 2) * 16 ≤ _; decide, rfl, ?_⟩
      rw [← hl]
      conv => whnf
      refine ⟨3, [(0, 1)], [], ?_, by decide, by decide⟩
      repeat' (first | exact trivial | exact .inl (DLe.refl _) | exact .inl (DLe.nil _ _) | (refine .inr ⟨rfl, _, ?_, rfl⟩; rfl) | exact rfl | exact .inl rfl | exact .inr ⟨rfl, rfl, rfl, rfl⟩ | exact Nat.zero_le _ | constructor)
    · have e : IntKind.u32.wrap (((BitVec.ofInt IntKind.u32.bits ((a : Int).fdiv (2 ^ 0)) &&& BitVec.ofInt IntKind.u32.bits 255).toNat : Nat) : Int) = ((a % 256 : Nat) : Int) := step (a) _ ((shr_at a 0).trans (by simp)) (by omega)
      have hl : (parts4 a).take 4 = (parts4 a).take 3 ++ [dig (a % 256)] := rfl
      conv => whnf
      refine ⟨by decide, ?_⟩
      conv => whnf
      refine CallVC.pure (Q := fun d => d = strD (dig (a % 256))) ?_ rfl ?_
      · exact (congrArg (fun z => Fn Try.prog 34 [u32D z] fun d => d = strD (dig (a % 256))) e).mpr (digits_fn (a % 256) (Nat.mod_lt _ (by decide)))
      rintro _ rfl
      conv => whnf
      (refine ⟨by decide, ?_⟩; conv => whnf)
      refine ⟨List Nat, strE, (parts4 a).take 3 ++ [dig (a % 256)], (by rw [List.map_append]; rfl), fun _ => rfl, by show 1 + 3 ≤ _; decide, by show (1 + 3) * 16 ≤ _; decide, rfl, ?_⟩
      rw [← hl]
      conv => whnf
      refine ⟨4, [(0, 1)], [], ?_, by decide, by decide⟩
      repeat' (first | exact trivial | exact .inl (DLe.refl _) | exact .inl (DLe.nil _ _) | (refine .inr ⟨rfl, _, ?_, rfl⟩; rfl) | exact rfl | exact .inl rfl | exact .inr ⟨rfl, rfl, rfl, rfl⟩ | exact Nat.zero_le _ | constructor)
    · conv => whnf
      refine CallVC.look (args0 := [rowsT (parts4 a), strD [46]]) hjoin rfl ?_
      rintro _ rfl
      conv => whnf
end Go.Proofs.Ytfghccppoilfhaa.V
namespace Go.Proofs.Ytfghccppoilfhaa.V
open Go.RowKit
attribute [local irreducible] Fn FnN OpVC

theorem u32_of (x : Nat) (h : x < 4294967296) : IntKind.u32.wrap ((x : Nat) : Int) = ((x : Nat) : Int) := u32_small (by omega)
theorem i64_of (x : Nat) (h : x < 4294967296) : IntKind.i64.wrap ((x : Nat) : Int) = ((x : Nat) : Int) := IntWalk.i64_in _ (by omega)
theorem number_at (m : Nat) (h : m < 256) {x : Int} (e : x = ((m : Nat) : Int)) : Fn Try.prog 28 [.v (.int .i64 x)] fun d => d = strD (dig m) := by subst e; exact number_fn m h

theorem dot_app {x : List Nat} {b : ByteArray} (h : b = strB [46]) : strB x ++ b = strB (x ++ [46]) := by rw [h, strB_append]
set_option maxHeartbeats 1000000 in
theorem rtext_fn (a : Nat) (ha : a < 4294967296) : Fn Try.prog 16 [u32D a] fun d => d = strD (txt a) := by
  refine fnOf [] Try.func16 rfl (by kernel_rfl) (Nat.le_of_ble_eq_true rfl) ?_
  have q : ∀ d : Nat, 0 < d → IntKind.u32.wrap ((a : Int).tdiv d) = ((a / d : Nat) : Int) := fun d hd => by
    rw [Int.tdiv_eq_ediv_of_nonneg (by omega), ← Int.natCast_ediv]
    exact u32_of _ (by have := Nat.div_le_self a d; omega)
  have m : ∀ x : Nat, ((x : Nat) : Int).tmod 256 = ((x % 256 : Nat) : Int) := fun x => by
    rw [Int.tmod_eq_emod_of_nonneg (by omega)]; omega
  have e3 : IntKind.i64.wrap (IntKind.u32.wrap ((a : Int).tdiv 16777216)) = ((a / 16777216 % 256 : Nat) : Int) := by
    rw [show (16777216 : Int) = ((16777216 : Nat) : Int) from rfl, q _ (by decide), i64_of _ (by omega)]; omega
  have e2 : IntKind.i64.wrap ((IntKind.u32.wrap ((a : Int).tdiv 65536)).tmod 256) = ((a / 65536 % 256 : Nat) : Int) := by
    rw [show (65536 : Int) = ((65536 : Nat) : Int) from rfl, q _ (by decide), m, i64_of _ (by omega)]
  have e1 : IntKind.i64.wrap ((IntKind.u32.wrap ((a : Int).tdiv 256)).tmod 256) = ((a / 256 % 256 : Nat) : Int) := by
    rw [show (IntKind.u32.wrap ((a : Int).tdiv 256)) = ((a / 256 : Nat) : Int) from q 256 (by decide), m, i64_of _ (by omega)]
  have e0 : IntKind.i64.wrap (((a : Nat) : Int).tmod 256) = ((a % 256 : Nat) : Int) := by rw [m, i64_of _ (by omega)]
  have l3 := dig_len (a / 16777216 % 256); have l2 := dig_len (a / 65536 % 256); have l1 := dig_len (a / 256 % 256); have l0 := dig_len (a % 256)
  have ht : txt a = (((((dig (a / 16777216 % 256) ++ [46]) ++ dig (a / 65536 % 256)) ++ [46]) ++ dig (a / 256 % 256)) ++ [46]) ++ dig (a % 256) := by simp [txt, join4]
  rw [ht]
  have f3 := number_at _ (Nat.mod_lt _ (by decide)) e3
  have f2 := number_at _ (Nat.mod_lt _ (by decide)) e2
  have f1 := number_at _ (Nat.mod_lt _ (by decide)) e1
  have f0 := number_at _ (Nat.mod_lt _ (by decide)) e0
  generalize dig (a / 16777216 % 256) = d3 at *
  generalize dig (a / 65536 % 256) = d2 at *
  generalize dig (a / 256 % 256) = d1 at *
  generalize dig (a % 256) = d0 at *
  conv => whnf
  refine ⟨by decide, ?_⟩
  conv => whnf
  refine CallVC.pure f3 rfl ?_
  rintro _ rfl
  conv => whnf
  refine ⟨str_le (b := [46]) (by simp; omega), ?_⟩
  rw [dot_app (b := ⟨#[46]⟩) rfl]
  conv => whnf
  refine ⟨by decide, ?_⟩
  conv => whnf
  refine ⟨by decide, ?_⟩
  conv => whnf
  refine CallVC.pure f2 rfl ?_
  rintro _ rfl
  conv => whnf
  refine ⟨str_le (by simp; omega), ?_⟩
  rw [strB_append]
  conv => whnf
  refine ⟨str_le (b := [46]) (by simp; omega), ?_⟩
  rw [dot_app (b := ⟨#[46]⟩) rfl]
  conv => whnf
  refine ⟨by decide, ?_⟩
  conv => whnf
  refine ⟨by decide, ?_⟩
  conv => whnf
  refine CallVC.pure f1 rfl ?_
  rintro _ rfl
  conv => whnf
  refine ⟨str_le (by simp; omega), ?_⟩
  rw [strB_append]
  conv => whnf
  refine ⟨str_le (b := [46]) (by simp; omega), ?_⟩
  rw [dot_app (b := ⟨#[46]⟩) rfl]
  conv => whnf
  refine ⟨by decide, ?_⟩
  conv => whnf
  refine CallVC.pure f0 rfl ?_
  rintro _ rfl
  conv => whnf
  refine ⟨str_le (by simp; omega), ?_⟩
  rw [strB_append]
  conv => whnf

theorem pfold_take {l : List Nat} {k x : Nat} {s s' : PS} (hx : l[k]? = some x) (hs : pfold (l.take k) ⟨0, 0, 0, false⟩ = some s) (h : pstep s x = some s') : pfold (l.take (k + 1)) ⟨0, 0, 0, false⟩ = some s' := by
  rw [List.take_add_one, hx, pfold_app, hs]
  show pfold [x] s = _
  rw [pfold, h]; rfl
theorem pfold_stop {l : List Nat} {k x : Nat} {s : PS} (hx : l[k]? = some x) (hs : pfold (l.take k) ⟨0, 0, 0, false⟩ = some s) (h : pstep s x = none) : pParse l = none := by
  have e : l = l.take k ++ x :: l.drop (k + 1) := take_drop_at hx
  have : pfold l ⟨0, 0, 0, false⟩ = none := by
    rw [e, pfold_app, hs]
    show pfold (x :: _) s = _
    rw [pfold, h]
  unfold pParse
  rw [this]

def addrD : Option Nat → D
  | some v => .tup [u32D v, intD 0]
  | none => .tup [u32D 0, intD 3]

set_option maxHeartbeats 1000000 in
theorem parse_fn (hj : JoinC) (l : List Nat) (hl : Byt l) : Fn Try.prog 67 [strD l] fun d => d = addrD (pParse l) := by
  refine fnOf [] Try.func67 rfl (by kernel_rfl) (Nat.le_of_ble_eq_true rfl) ?_
  conv => whnf
  refine op_rangeStr ttH rfl rfl rfl ?_
  conv => whnf
  refine ⟨Nat × PS, fun g => ⟨[(11, .loc 0 0), (7, boolD g.2.so), (6, intD g.2.p), (5, u32D g.2.n), (4, u32D g.2.a), (0, strD l)], [(0, strI (strB l) g.1)], 1, ([], 0)⟩,
    fun g => g.1 ≤ l.length ∧ pfold (l.take g.1) ⟨0, 0, 0, false⟩ = some g.2 ∧ PInv g.2, fun g => l.length - g.1, ⟨(0, ⟨0, 0, 0, false⟩), [], [], ?_, Nat.zero_le _, rfl, .start⟩, ?_⟩
  · repeat' (first | exact trivial | exact .inl (DLe.refl _) | exact .inl (DLe.nil _ _) | (refine .inr ⟨rfl, _, ?_, rfl⟩; rfl) | exact rfl | exact .inl rfl | exact .inr ⟨rfl, rfl, rfl, rfl⟩ | exact Nat.zero_le _ | constructor)
  · rintro ⟨k, s⟩ ⟨hk, hs, hi⟩
    dsimp only at hk hs hi
    obtain ⟨sa, sn, sp, so⟩ := s
    have hn := hi.n; have ha := hi.a24; have hp := hi.p
    dsimp only at hn ha hp
    dsimp only
    conv => whnf
    refine op_nextStr rfl rfl rfl (fun c w hlt hd => ?_) (fun hge => ?_)
    · rw [strB_size] at hlt
      obtain ⟨x, hx⟩ : ∃ x, l[k]? = some x := ⟨_, List.getElem?_eq_getElem hlt⟩
      have hx256 := hl.get hx
      by_cases hx7 : x < 128
      · rw [decode_low hl hx hx7] at hd
        injection hd with hd1 hd2; subst hd1 hd2
        have hstop : pstep ⟨sa, sn, sp, so⟩ x = none → pParse l = none := pfold_stop hx hs
        have hgo : ∀ s', pstep ⟨sa, sn, sp, so⟩ x = some s' → pfold (l.take (k + 1)) ⟨0, 0, 0, false⟩ = some s' ∧ PInv s' := fun s' h => ⟨pfold_take hx hs h, hi.step h⟩
        unfold pstep isDig at hstop hgo
        cases g1 : decide (48 ≤ x) && decide (x ≤ 57) with
        | true =>
          rw [g1] at hstop hgo
          simp only [Bool.and_eq_true, decide_eq_true_eq] at g1
          have e : IntKind.u32.wrap (IntKind.u32.wrap ((sn : Int) * 10) + IntKind.u32.wrap (IntKind.i32.wrap ((x : Int) - 48))) = ((sn * 10 + (x - 48) : Nat) : Int) := by
            rw [IntWalk.i32_in _ (by omega), u32_small (n := (x : Int) - 48) (by omega), u32_small (n := (sn : Int) * 10) (by omega), u32_small (by omega)]; omega
          conv => whnf
          refine Fork.intro (fun g => ?_) (fun g => absurd (of_decide_eq_false g) (by omega))
          conv => whnf
          refine Fork.intro (fun g => ?_) (fun g => absurd (of_decide_eq_false g) (by omega))
          conv => whnf
          rw [e]
          cases g2 : decide (255 < sn * 10 + (x - 48)) with
          | true =>
            rw [g2] at hstop
            rw [hstop rfl]
            refine Fork.intro (fun g => ?_) (fun g => absurd (of_decide_eq_false g) (by have := of_decide_eq_true g2; omega))
            conv => whnf
            rfl
          | false =>
            rw [g2] at hgo
            obtain ⟨h1, h2⟩ := hgo _ rfl
            refine Fork.intro (fun g => absurd (of_decide_eq_true g) (by have := of_decide_eq_false g2; omega)) (fun g => ?_)
            conv => whnf
            refine ⟨(k + 1, ⟨sa, sn * 10 + (x - 48), sp, true⟩), [], [], ?_, ⟨hlt, h1, h2⟩, by show l.length - (k + 1) < l.length - k; omega⟩
            repeat' (first | exact trivial | exact .inl (DLe.refl _) | exact .inl (DLe.nil _ _) | (refine .inr ⟨rfl, _, ?_, rfl⟩; rfl) | exact rfl | exact .inl rfl | exact .inr ⟨rfl, rfl, rfl, rfl⟩ | exact Nat.zero_le _ | constructor)
        | false =>
          rw [g1] at hstop hgo
          have g1' : ¬ (48 ≤ x ∧ x ≤ 57) := by
            intro h; rw [decide_eq_true h.1, decide_eq_true h.2] at g1; cases g1
          cases g2 : decide (x = 46) && so && decide (sp < 3) with
          | true =>
            rw [g2] at hgo
            obtain ⟨h1, h2⟩ := hgo _ rfl
            simp only [Bool.and_eq_true, decide_eq_true_eq] at g2
            obtain ⟨⟨hx46, rfl⟩, hp3⟩ := g2
            subst hx46
            have e := u32_put sa sn ha (by omega)
            have e2 : IntKind.i64.wrap ((sp : Int) + 1) = ((sp + 1 : Nat) : Int) := wrap_next (n := 10) (by omega) (by decide)
            conv => whnf
            cases g3 : decide ((sp : Int) < 3) with
            | false => exact absurd (of_decide_eq_false g3) (by omega)
            | true =>
            conv => whnf
            refine ⟨by decide, ?_⟩
            conv => whnf
            rw [e, e2]
            refine ⟨(k + 1, ⟨sa * 256 + sn, 0, sp + 1, false⟩), [], [], ?_, ⟨hlt, h1, h2⟩, by show l.length - (k + 1) < l.length - k; omega⟩
            repeat' (first | exact trivial | exact .inl (DLe.refl _) | exact .inl (DLe.nil _ _) | (refine .inr ⟨rfl, _, ?_, rfl⟩; rfl) | exact rfl | exact .inl rfl | exact .inr ⟨rfl, rfl, rfl, rfl⟩ | exact Nat.zero_le _ | constructor)
          | false =>
            rw [g2] at hstop
            rw [hstop rfl]
            conv => whnf
            cases gA : decide ((48 : Int) ≤ x) with
            | true =>
              conv => whnf
              cases gB : decide ((x : Int) ≤ 57) with
              | true => exact absurd ⟨by have := of_decide_eq_true gA; omega, by have := of_decide_eq_true gB; omega⟩ g1'
              | false =>
                conv => whnf
                cases gC : decide ((x : Int) = 46) with
                | false =>
                  conv => whnf
                  rfl
                | true =>
                  have hx46 : x = 46 := by have := of_decide_eq_true gC; omega
                  rw [decide_eq_true hx46] at g2
                  cases so with
                  | false =>
                    conv => whnf
                    rfl
                  | true =>
                    have h3 : ¬ sp < 3 := fun h => by rw [decide_eq_true h] at g2; cases g2
                    conv => whnf
                    cases gD : decide ((sp : Int) < 3) with
                    | true => exact absurd (of_decide_eq_true gD) (by omega)
                    | false =>
                      conv => whnf
                      rfl
            | false =>
              conv => whnf
              cases gC : decide ((x : Int) = 46) with
              | false =>
                conv => whnf
                rfl
              | true =>
                have hx46 : x = 46 := by have := of_decide_eq_true gC; omega
                rw [decide_eq_true hx46] at g2
                cases so with
                | false =>
                  conv => whnf
                  rfl
                | true =>
                  have h3 : ¬ sp < 3 := fun h => by rw [decide_eq_true h] at g2; cases g2
                  conv => whnf
                  cases gD : decide ((sp : Int) < 3) with
                  | true => exact absurd (of_decide_eq_true gD) (by omega)
                  | false =>
                    conv => whnf
                    rfl
      · have hc := decode_high hl hx hx7 hd
        have hz : pParse l = none := pfold_stop hx hs (by
          unfold pstep isDig
          rw [decide_eq_false (by omega : ¬ x ≤ 57), Bool.and_false]
          simp only []
          rw [decide_eq_false (by omega : ¬ x = 46)]
          rfl)
        rw [hz]
        conv => whnf
        refine Fork.intro (fun g => ?_) (fun g => absurd (of_decide_eq_false g) (by omega))
        conv => whnf
        refine Fork.intro (fun g => absurd (of_decide_eq_true g) (by omega)) (fun g => ?_)
        conv => whnf
        refine Fork.intro (fun g => absurd (of_decide_eq_true g) (by omega)) (fun g => ?_)
        conv => whnf
        rfl
    · rw [strB_size] at hge
      have hk' : k = l.length := by omega
      rw [hk', List.take_length] at hs
      have e := u32_put sa sn ha (by omega)
      have hres : pParse l = match decide (txt (sa * 256 + sn) = l) with
        | true => some (sa * 256 + sn)
        | false => none := by unfold pParse; rw [hs]; rfl
      have ht := text_fn hj (sa * 256 + sn) (by omega)
      rw [hres]
      conv => whnf
      refine ⟨by decide, ?_⟩
      conv => whnf
      rw [e]
      conv => whnf
      refine CallVC.pure ht rfl ?_
      rintro _ rfl
      conv => whnf
      rw [strB_beq (txt_byt _) hl]
      cases decide (txt (sa * 256 + sn) = l) with
      | true =>
        conv => whnf
        rfl
      | false =>
        conv => whnf
        rfl
end Go.Proofs.Ytfghccppoilfhaa.V
