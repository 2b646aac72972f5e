/-
  Numbers in digits, by value: the program's and the document's. Conditions: numbers below 256.
-/
import Derived.Test.YtooaeccmkgockaaGreatDoorTtK
import Derived.Test.YtooaeccmkgockaaGreatDoorK1
import Derived.Test.YtooaeccmkgockaaGreatDoorAaK
namespace Go.Proofs.YtooaeccmkgockaaGreatDoor.V
open Go.RowKit
attribute [local irreducible] Fn FnN OpVC

abbrev u32D (n : Int) : D := .v (.int .u32 n)
abbrev u8D (n : Int) : D := .v (.int .u8 n)

theorem u32_small {n : Int} (h : 0 ≤ n ∧ n < 4294967296) : IntKind.u32.wrap n = n := by rw [u32_wrap]; omega
theorem u8_wrap' (n : Int) : IntKind.u8.wrap n = n % 256 := by rw [IntKind.wrap]; rfl
theorem u8_small {n : Int} (h : 0 ≤ n ∧ n < 256) : IntKind.u8.wrap n = n := by rw [u8_wrap']; omega

theorem str_le {a b : List Nat} (h : a.length + b.length ≤ 1000000000) : (((strB a).size + (strB b).size : Nat) : Int) ≤ 9223372036854775807 := by
  rw [strB_size, strB_size]; omega

def DigAt (n : Nat) (g : Nat × List Nat × Bool) : Prop :=
  g = (n, [], true) ∨ g = (n / 10, [48 + n % 10], decide (0 < n / 10)) ∨ (10 ≤ n ∧ g = (n / 100, [48 + n / 10 % 10, 48 + n % 10], decide (0 < n / 100))) ∨ (100 ≤ n ∧ g = (0, [48 + n / 100, 48 + n / 10 % 10, 48 + n % 10], false))
theorem DigAt.step {n m : Nat} {out : List Nat} (h : n < 256) (hg : DigAt n (m, out, true)) : m < 256 ∧ out.length ≤ 3 ∧ DigAt n (m / 10, (48 + m % 10) :: out, decide (0 < m / 10)) := by
  rcases hg with hg | hg | ⟨h1, hg⟩ | ⟨h1, hg⟩
  · injection hg with e1 e2; injection e2 with e2 e3
    subst e1 e2
    exact ⟨h, by decide, .inr (.inl rfl)⟩
  · injection hg with e1 e2; injection e2 with e2 e3
    have := of_decide_eq_true e3.symm
    subst e1 e2
    refine ⟨by omega, by simp, .inr (.inr (.inl ⟨by omega, ?_⟩))⟩
    rw [show n / 10 / 10 = n / 100 by omega]
  · injection hg with e1 e2; injection e2 with e2 e3
    have := of_decide_eq_true e3.symm
    subst e1 e2
    refine ⟨by omega, by simp, .inr (.inr (.inr ⟨by omega, ?_⟩))⟩
    rw [show n / 100 / 10 = 0 by omega, show n / 100 % 10 = n / 100 by omega]
    rfl
  · injection hg with e1 e2; injection e2 with e2 e3; cases e3
theorem DigAt.done {n m : Nat} {out : List Nat} (h : n < 256) (hg : DigAt n (m, out, false)) : out = dig n := by
  unfold dig
  rcases hg with hg | hg | ⟨h1, hg⟩ | ⟨h1, hg⟩
  · injection hg with e1 e2; injection e2 with e2 e3; cases e3
  · injection hg with e1 e2; injection e2 with e2 e3
    have := of_decide_eq_false e3.symm
    rw [e2, if_pos (by omega), show n % 10 = n by omega]
  · injection hg with e1 e2; injection e2 with e2 e3
    have := of_decide_eq_false e3.symm
    rw [e2, if_neg (by omega), if_pos (by omega), show n / 10 % 10 = n / 10 by omega]
  · injection hg with e1 e2; injection e2 with e2 e3
    rw [e2, if_neg (by omega), if_neg (by omega)]

theorem digits_fn (n : Nat) (h : n < 256) : Fn Tryz.prog 54 [u32D n] fun d => d = strD (dig n) := by
  refine fnOf [] Tryz.func54 rfl (by kernel_rfl) (Nat.le_of_ble_eq_true rfl) ?_
  conv => whnf
  refine ⟨Nat × List Nat × Bool, fun g => ⟨[(4, boolD g.2.2), (3, strD g.2.1), (0, u32D g.1)], [], 0, ([], 0)⟩,
    DigAt n, fun g => match g.2.2 with | true => g.1 + 1 | false => 0, ⟨(n, [], true), [], [], ?_, .inl rfl⟩, ?_⟩
  · repeat' (first | exact trivial | exact .inl (DLe.refl _) | exact .inl (DLe.nil _ _) | (refine .inr ⟨rfl, _, ?_, rfl⟩; rfl) | exact rfl | exact Nat.zero_le _ | constructor)
  · rintro ⟨m, out, ok⟩ hg
    cases ok with
    | false =>
      dsimp only
      conv => whnf
      rw [DigAt.done h hg]
    | true =>
      obtain ⟨hm, ho, hnext⟩ := DigAt.step h hg
      have e1 : IntKind.u8.wrap (IntKind.u32.wrap (48 + (m : Int).tmod 10)) = ((48 + m % 10 : Nat) : Int) := by
        rw [Int.tmod_eq_emod_of_nonneg (by omega), u32_small (by omega), u8_small (by omega)]; omega
      have e2 : IntKind.u32.wrap ((m : Int).tdiv 10) = ((m / 10 : Nat) : Int) := by
        rw [Int.tdiv_eq_ediv_of_nonneg (by omega), u32_small (by omega)]; omega
      have e3 : decide (0 < ((m / 10 : Nat) : Int)) = decide (0 < m / 10) := decide_eq_decide.2 (by omega)
      dsimp only
      conv => whnf
      refine ⟨by decide, ?_⟩
      conv => whnf
      (refine ⟨by decide, ?_⟩; conv => whnf)
      refine op_bytesStr (L := [((48 + m % 10 : Nat) : Int)]) ttH rfl rfl rfl rfl ?_ rfl ?_
      · exact congrArg (fun x => some [[u8D x]]) e1
      rw [bytesOf_str, show [((48 + m % 10 : Nat) : Int)].map Int.toNat = [48 + m % 10] from rfl]
      conv => whnf
      refine ⟨str_le (by simp; omega), ?_⟩
      rw [strB_append]
      conv => whnf
      refine ⟨by decide, ?_⟩
      conv => whnf
      rw [e2]
      conv => whnf
      rw [e3]
      refine ⟨(m / 10, (48 + m % 10) :: out, decide (0 < m / 10)), [], [], ?_, hnext, ?_⟩
      · repeat' (first | exact trivial | exact .inl (DLe.refl _) | exact .inl (DLe.nil _ _) | (refine .inr ⟨rfl, _, ?_, rfl⟩; rfl) | exact rfl | exact Nat.zero_le _ | constructor)
      · show (match decide (0 < m / 10) with | true => m / 10 + 1 | false => 0) < m + 1
        cases h9 : decide (0 < m / 10) with
        | true => have := of_decide_eq_true h9; show m / 10 + 1 < m + 1; omega
        | false => exact Nat.succ_pos _
end Go.Proofs.YtooaeccmkgockaaGreatDoor.V
