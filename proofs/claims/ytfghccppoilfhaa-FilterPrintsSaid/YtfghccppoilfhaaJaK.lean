/-
  Numbers in decimal digits, texts cut at bytes, as lists of numbers. No condition.
-/
import Derived.Test.YtfghccppoilfhaaK2
namespace Go.Proofs.Ytfghccppoilfhaa.V

/-! ### Digits -/
def dgs (n : Nat) : List Nat := if n < 10 then [48 + n] else dgs (n / 10) ++ [48 + n % 10]
termination_by n
decreasing_by omega
theorem dgs_lt {n : Nat} (h : n < 10) : dgs n = [48 + n] := by rw [dgs, if_pos h]
theorem dgs_ge {n : Nat} (h : ¬ n < 10) : dgs n = dgs (n / 10) ++ [48 + n % 10] := by rw [dgs, if_neg h]
theorem dgs_dig {n : Nat} (h : n < 256) : dgs n = dig n := by
  unfold dig
  split
  · rename_i h1; exact dgs_lt h1
  · rename_i h1
    split
    · rename_i h2
      rw [dgs_ge h1, dgs_lt (by omega)]; rfl
    · rename_i h2
      rw [dgs_ge h1, dgs_ge (by omega), dgs_lt (by omega)]
      simp only [List.append_assoc, List.cons_append, List.nil_append, List.cons.injEq, and_true]
      omega
theorem dgs_ind {p : Nat → Prop} (h1 : ∀ n, n < 10 → p n) (h2 : ∀ n, ¬ n < 10 → p (n / 10) → p n) (n : Nat) : p n := by
  induction n using Nat.strongRecOn with
  | _ n ih =>
    by_cases h : n < 10
    · exact h1 n h
    · exact h2 n h (ih _ (by omega))
theorem dgs_is (n : Nat) : ∀ c, c ∈ dgs n → 48 ≤ c ∧ c ≤ 57 := by
  refine dgs_ind (p := fun n => ∀ c, c ∈ dgs n → 48 ≤ c ∧ c ≤ 57) (fun n h c hc => ?_) (fun n h ih c hc => ?_) n
  · rw [dgs_lt h] at hc; simp at hc; omega
  · rw [dgs_ge h] at hc
    rcases List.mem_append.1 hc with hc | hc
    · exact ih c hc
    · simp at hc; omega
theorem dgs_byt (n : Nat) : Byt (dgs n) := fun c hc => by have := dgs_is n c hc; omega
theorem dgs_ne (n : Nat) : dgs n ≠ [] := by
  by_cases h : n < 10
  · rw [dgs_lt h]; simp
  · rw [dgs_ge h]; simp
theorem dgs_len : ∀ (k n : Nat), n < 10 ^ (k + 1) → (dgs n).length ≤ k + 1
  | 0, n, h => by rw [dgs_lt (by simpa using h)]; simp
  | k + 1, n, h => by
    by_cases h1 : n < 10
    · rw [dgs_lt h1]; simp
    · rw [dgs_ge h1]
      have := dgs_len k (n / 10) (by rw [Nat.pow_succ] at h; omega)
      simp; omega

/-! ### Texts cut -/
theorem txt_is (a : Nat) : ∀ c, c ∈ txt a → c = 46 ∨ (48 ≤ c ∧ c ≤ 57) := by
  have hd : ∀ n c, c ∈ dig (n % 256) → c = 46 ∨ (48 ≤ c ∧ c ≤ 57) := fun n c hc => by
    rw [← dgs_dig (Nat.mod_lt _ (by decide))] at hc
    exact .inr (dgs_is _ c hc)
  unfold txt join4
  intro c hc
  simp only [List.mem_append, List.mem_cons] at hc
  rcases hc with hc | rfl | hc | rfl | hc | rfl | hc
  · exact hd _ c hc
  · exact .inl rfl
  · exact hd _ c hc
  · exact .inl rfl
  · exact hd _ c hc
  · exact .inl rfl
  · exact hd _ c hc
end Go.Proofs.Ytfghccppoilfhaa.V
