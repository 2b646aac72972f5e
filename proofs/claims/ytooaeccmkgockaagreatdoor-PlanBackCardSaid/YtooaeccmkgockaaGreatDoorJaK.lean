/-
  Numbers in decimal digits, texts cut at bytes, as lists of numbers. No condition.
-/
import Derived.Test.YtooaeccmkgockaaGreatDoorAaK
namespace Go.Proofs.YtooaeccmkgockaaGreatDoor.V

/-! ### Digits -/
def dgs (n : Nat) : List Nat := if n < 10 then [48 + n] else dgs (n / 10) ++ [48 + n % 10]
termination_by n
decreasing_by omega
theorem dgs_lt {n : Nat} (h : n < 10) : dgs n = [48 + n] := by rw [dgs, if_pos h]
theorem dgs_ge {n : Nat} (h : ¬ n < 10) : dgs n = dgs (n / 10) ++ [48 + n % 10] := by rw [dgs, if_neg h]
theorem dgs_dig {n : Nat} (h : n < 256) : dgs n = dig n := by
  unfold dig
  split
  · rename_i h1; exact dgs_lt h1
  · rename_i h1
    split
    · rename_i h2
      rw [dgs_ge h1, dgs_lt (by omega)]; rfl
    · rename_i h2
      rw [dgs_ge h1, dgs_ge (by omega), dgs_lt (by omega)]
      simp only [List.append_assoc, List.cons_append, List.nil_append, List.cons.injEq, and_true]
      omega
theorem dgs_ind {p : Nat → Prop} (h1 : ∀ n, n < 10 → p n) (h2 : ∀ n, ¬ n < 10 → p (n / 10) → p n) (n : Nat) : p n := by
  induction n using Nat.strongRecOn with
  | _ n ih =>
    by_cases h : n < 10
    · exact h1 n h
    · exact h2 n h (ih _ (by omega))
theorem dgs_is (n : Nat) : ∀ c, c ∈ dgs n → 48 ≤ c ∧ c ≤ 57 := by
  refine dgs_ind (p := fun n => ∀ c, c ∈ dgs n → 48 ≤ c ∧ c ≤ 57) (fun n h c hc => ?_) (fun n h ih c hc => ?_) n
  · rw [dgs_lt h] at hc; simp at hc; omega
  · rw [dgs_ge h] at hc
    rcases List.mem_append.1 hc with hc | hc
    · exact ih c hc
    · simp at hc; omega
theorem dgs_byt (n : Nat) : Byt (dgs n) := fun c hc => by have := dgs_is n c hc; omega
theorem dgs_ne (n : Nat) : dgs n ≠ [] := by
  by_cases h : n < 10
  · rw [dgs_lt h]; simp
  · rw [dgs_ge h]; simp
theorem dgs_len : ∀ (k n : Nat), n < 10 ^ (k + 1) → (dgs n).length ≤ k + 1
  | 0, n, h => by rw [dgs_lt (by simpa using h)]; simp
  | k + 1, n, h => by
    by_cases h1 : n < 10
    · rw [dgs_lt h1]; simp
    · rw [dgs_ge h1]
      have := dgs_len k (n / 10) (by rw [Nat.pow_succ] at h; omega)
      simp; omega

def numS (bad : Int) : List Nat → Nat → Int
  | [], n => n
  | c :: l, n => match isDig c && !decide (65535 < n) with
    | true => numS bad l (n * 10 + (c - 48))
    | false => bad
theorem numS_dgs (bad : Int) (n : Nat) (h : n / 10 ≤ 65535) (r : List Nat) : numS bad (dgs n ++ r) 0 = numS bad r n := by
  refine dgs_ind (p := fun n => n / 10 ≤ 65535 → ∀ r, numS bad (dgs n ++ r) 0 = numS bad r n) (fun n h _ r => ?_) (fun n h1 ih h r => ?_) n h r
  · rw [dgs_lt h]
    show numS bad ((48 + n) :: r) 0 = _
    rw [numS, isDig_add h, show 0 * 10 + (48 + n - 48) = n by omega]; rfl
  · rw [dgs_ge h1, List.append_assoc, ih (by omega)]
    show numS bad ((48 + n % 10) :: r) _ = _
    rw [numS, isDig_add (Nat.mod_lt _ (by decide)), decide_eq_false (by omega : ¬ 65535 < n / 10), show n / 10 * 10 + (48 + n % 10 - 48) = n by omega]; rfl
theorem numS_le (bad : Int) : ∀ (l : List Nat) (n : Nat), n ≤ 655359 → numS bad l n = bad ∨ (0 ≤ numS bad l n ∧ numS bad l n ≤ 655359)
  | [], n, h => .inr (by rw [numS]; omega)
  | c :: l, n, h => by
    rw [numS]
    split
    · rename_i h1
      simp only [Bool.and_eq_true, Bool.not_eq_true', decide_eq_false_iff_not, isDig, decide_eq_true_eq] at h1
      exact numS_le bad l _ (by omega)
    · exact .inl rfl
def numP (l : List Nat) : Int := match l with
  | [] => -1
  | _ => numS (-1) l 0
theorem numP_dgs (n : Nat) (h : n / 10 ≤ 65535) : numP (dgs n) = n := by
  have h1 := numS_dgs (-1) n h []
  rw [List.append_nil, numS] at h1
  have h2 := dgs_ne n
  unfold numP
  split
  · rename_i h3; exact absurd h3 h2
  · exact h1
theorem numP_le (l : List Nat) : -1 ≤ numP l ∧ numP l ≤ 655359 := by
  unfold numP
  split
  · omega
  · have := numS_le (-1) l 0 (by decide); omega
/-! ### Texts cut -/
def splB (p : Nat → Bool) : List Nat → List (List Nat)
  | [] => [[]]
  | c :: l => match p c, splB p l with
    | true, r => [] :: r
    | false, q :: r => (c :: q) :: r
    | false, [] => [[c]]
theorem splB_ne (p : Nat → Bool) : ∀ l, splB p l ≠ []
  | [] => by simp [splB]
  | c :: l => by
    rw [splB]
    cases p c with
    | true => simp
    | false => cases splB p l <;> simp
theorem splB_app {p : Nat → Bool} {x : List Nat} (hx : ∀ c, c ∈ x → p c = false) {c : Nat} (hc : p c = true) (r : List Nat) : splB p (x ++ c :: r) = x :: splB p r := by
  induction x with
  | nil => rw [List.nil_append, splB, hc]
  | cons d x ih =>
    rw [List.cons_append, splB, ih fun c hc => hx c (List.mem_cons_of_mem _ hc), hx d List.mem_cons_self]
theorem splB_one {p : Nat → Bool} {x : List Nat} (hx : ∀ c, c ∈ x → p c = false) : splB p x = [x] := by
  induction x with
  | nil => rfl
  | cons d x ih =>
    rw [splB, ih fun c hc => hx c (List.mem_cons_of_mem _ hc), hx d List.mem_cons_self]
theorem splB_len (p : Nat → Bool) : ∀ l : List Nat, (splB p l).length ≤ l.length + 1
  | [] => by simp [splB]
  | c :: l => by
    have := splB_len p l
    rw [splB]
    split
    · simp; omega
    · rename_i q r h1 h2; rw [h2] at this; simp at this ⊢; omega
    · simp
theorem splB_mem (p : Nat → Bool) : ∀ (l : List Nat) (q : List Nat), q ∈ splB p l → q.length ≤ l.length ∧ ∀ x, x ∈ q → x ∈ l
  | [], q, h => by simp [splB] at h; subst h; simp
  | c :: l, q, h => by
    rw [splB] at h
    have ih := splB_mem p l
    split at h
    · rcases List.mem_cons.1 h with rfl | h
      · simp
      · have := ih q h
        exact ⟨by simp; omega, fun x hx => List.mem_cons_of_mem _ (this.2 x hx)⟩
    · rename_i u r h1 h2
      rcases List.mem_cons.1 h with rfl | h
      · have := ih u (by rw [h2]; exact List.mem_cons_self)
        exact ⟨by simp; omega, fun x hx => by
          rcases List.mem_cons.1 hx with rfl | hx
          · exact List.mem_cons_self
          · exact List.mem_cons_of_mem _ (this.2 x hx)⟩
      · have := ih q (by rw [h2]; exact List.mem_cons_of_mem _ h)
        exact ⟨by simp; omega, fun x hx => List.mem_cons_of_mem _ (this.2 x hx)⟩
    · rename_i h1 h2; exact absurd h2 (splB_ne p l)
theorem splB_byt {p : Nat → Bool} {l : List Nat} (h : Byt l) {q : List Nat} (hq : q ∈ splB p l) : Byt q := h.sub (splB_mem p l q hq).2
def eqC (c : Nat) : Nat → Bool := fun x => decide (x = c)
abbrev spl (c : Nat) (l : List Nat) : List (List Nat) := splB (eqC c) l
theorem eqC_ne {c : Nat} {x : List Nat} (h : ∀ d, d ∈ x → d ≠ c) : ∀ d, d ∈ x → eqC c d = false := fun d hd => decide_eq_false (h d hd)
theorem eqC_self (c : Nat) : eqC c c = true := decide_eq_true rfl

def cutL (c : Nat) : List Nat → List Nat
  | [] => []
  | x :: l => match decide (x = c) with
    | true => []
    | false => x :: cutL c l
def cutR (c : Nat) : List Nat → List Nat
  | [] => []
  | x :: l => match decide (x = c) with
    | true => l
    | false => cutR c l
theorem cutL_app {c : Nat} {x : List Nat} (hx : ∀ d, d ∈ x → d ≠ c) (r : List Nat) : cutL c (x ++ c :: r) = x ∧ cutR c (x ++ c :: r) = r := by
  induction x with
  | nil => rw [List.nil_append, cutL, cutR, decide_eq_true rfl]; exact ⟨rfl, rfl⟩
  | cons d x ih =>
    obtain ⟨h1, h2⟩ := ih fun d hd => hx d (List.mem_cons_of_mem _ hd)
    rw [List.cons_append, cutL, cutR, decide_eq_false (hx d List.mem_cons_self)]
    exact ⟨by simp only [h1], h2⟩
theorem cutL_mem (c : Nat) : ∀ (l : List Nat) (x : Nat), x ∈ cutL c l → x ∈ l
  | [], x, h => by simp [cutL] at h
  | y :: l, x, h => by
    rw [cutL] at h
    split at h
    · cases h
    · rcases List.mem_cons.1 h with rfl | h
      · exact List.mem_cons_self
      · exact List.mem_cons_of_mem _ (cutL_mem c l x h)
theorem cutR_mem (c : Nat) : ∀ (l : List Nat) (x : Nat), x ∈ cutR c l → x ∈ l
  | [], x, h => by simp [cutR] at h
  | y :: l, x, h => by
    rw [cutR] at h
    split at h
    · exact List.mem_cons_of_mem _ h
    · exact List.mem_cons_of_mem _ (cutR_mem c l x h)
theorem txt_is (a : Nat) : ∀ c, c ∈ txt a → c = 46 ∨ (48 ≤ c ∧ c ≤ 57) := by
  have hd : ∀ n c, c ∈ dig (n % 256) → c = 46 ∨ (48 ≤ c ∧ c ≤ 57) := fun n c hc => by
    rw [← dgs_dig (Nat.mod_lt _ (by decide))] at hc
    exact .inr (dgs_is _ c hc)
  unfold txt join4
  intro c hc
  simp only [List.mem_append, List.mem_cons] at hc
  rcases hc with hc | rfl | hc | rfl | hc | rfl | hc
  · exact hd _ c hc
  · exact .inl rfl
  · exact hd _ c hc
  · exact .inl rfl
  · exact hd _ c hc
  · exact .inl rfl
  · exact hd _ c hc
end Go.Proofs.YtooaeccmkgockaaGreatDoor.V
