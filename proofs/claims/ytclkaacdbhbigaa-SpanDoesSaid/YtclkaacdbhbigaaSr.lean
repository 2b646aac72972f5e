/-
  Numbers that came: how many there are of a kind between two bounds, plainly. No condition.
-/
import Derived.Test.YtclkaacdbhbigaaSq
namespace Go.Proofs.Ytclkaacdbhbigaa.Sp

/-- How many of the k numbers from a on are of a kind. -/
def cnt (f : Int → Bool) (a : Int) : Nat → Int
  | 0 => 0
  | k + 1 => cnt f a k + (match f (a + k) with
    | true => 1
    | false => 0)
theorem cnt_add (f : Int → Bool) (a : Int) (k : Nat) : ∀ m : Nat, cnt f a (k + m) = cnt f a k + cnt f (a + k) m
  | 0 => by simp [cnt]
  | m + 1 => by
    show cnt f a (k + m) + (match f (a + ((k + m : Nat) : Int)) with | true => 1 | false => 0) = cnt f a k + (cnt f (a + k) m + (match f (a + k + m) with | true => 1 | false => 0))
    have : a + ((k + m : Nat) : Int) = a + k + m := by omega
    rw [cnt_add f a k m, this]
    omega
theorem cnt_congr {f g : Int → Bool} {a : Int} : ∀ {k : Nat}, (∀ n, a ≤ n → n < a + k → f n = g n) → cnt f a k = cnt g a k
  | 0, _ => rfl
  | k + 1, h => by
    show cnt f a k + _ = cnt g a k + _
    rw [cnt_congr (k := k) fun n h1 h2 => h n h1 (by omega), h (a + k) (by omega) (by omega)]
theorem cnt_all {f : Int → Bool} {a : Int} : ∀ {k : Nat}, (∀ n, a ≤ n → n < a + k → f n = true) → cnt f a k = k
  | 0, _ => rfl
  | k + 1, h => by
    show cnt f a k + _ = _
    rw [cnt_all (k := k) fun n h1 h2 => h n h1 (by omega), h (a + k) (by omega) (by omega)]
    show (k : Int) + 1 = ((k + 1 : Nat) : Int)
    omega
theorem cnt_none {f : Int → Bool} {a : Int} : ∀ {k : Nat}, (∀ n, a ≤ n → n < a + k → f n = false) → cnt f a k = 0
  | 0, _ => rfl
  | k + 1, h => by
    show cnt f a k + _ = _
    rw [cnt_none (k := k) fun n h1 h2 => h n h1 (by omega), h (a + k) (by omega) (by omega)]
    rfl
theorem cnt_shift {f g : Int → Bool} {a b : Int} (h : ∀ n, f (a + n) = g (b + n)) : ∀ k : Nat, cnt f a k = cnt g b k
  | 0 => rfl
  | k + 1 => by
    show cnt f a k + _ = cnt g b k + _
    rw [cnt_shift h k, h k]

/-- Whether a number is one of a row of pieces. -/
def memB (L : List Pc) (n : Int) : Bool := L.any fun x => decide (x.fr ≤ n) && decide (n < x.to)
theorem memB_iff {L : List Pc} {n : Int} : memB L n = true ↔ mem L n := by
  unfold memB mem
  simp [List.any_eq_true]

/-- Of canonical pieces, the count is the number of their numbers. -/
theorem count_cnt : ∀ {L : List Pc} {a : Int} {k : Nat}, Canon L → (∀ x, x ∈ L → a ≤ x.fr ∧ x.to ≤ a + k) → count L = cnt (memB L) a k
  | [], a, k, _, _ => (cnt_none (f := memB []) fun _ _ _ => rfl).symm
  | x :: r, a, k, hc, hb => by
    have hs := List.pairwise_cons.1 hc.sep
    have hx := (hc.ok x List.mem_cons_self).lt
    have hxb := hb x List.mem_cons_self
    have hr : Canon r := ⟨hs.2, fun y hy => hc.ok y (List.mem_cons_of_mem _ hy)⟩
    obtain ⟨i, hi⟩ : ∃ i : Nat, x.fr = a + i := ⟨(x.fr - a).toNat, by omega⟩
    obtain ⟨j, hj⟩ : ∃ j : Nat, x.to = x.fr + j := ⟨(x.to - x.fr).toNat, by omega⟩
    obtain ⟨m, hm⟩ : ∃ m : Nat, a + (k : Int) = x.to + m := ⟨(a + k - x.to).toNat, by omega⟩
    have ih := count_cnt (L := r) (a := x.to) (k := m) hr fun y hy => by
      have h1 := hs.1 y hy
      have h2 := hb y (List.mem_cons_of_mem _ hy)
      omega
    have ek : k = i + (j + m) := by omega
    have out : ∀ n, n < x.to → ¬ mem r n := fun n hn ⟨y, hy, h1, h2⟩ => by have := hs.1 y hy; omega
    have e1 : cnt (memB (x :: r)) a i = 0 := cnt_none fun n h1 h2 => by
      cases hq : memB (x :: r) n with
      | false => rfl
      | true =>
        exfalso
        obtain ⟨y, hy, h3, h4⟩ := memB_iff.1 hq
        rcases List.mem_cons.1 hy with rfl | hy
        · omega
        · exact out n (by omega) ⟨y, hy, h3, h4⟩
    have e2 : cnt (memB (x :: r)) (a + i) j = j := cnt_all fun n h1 h2 => memB_iff.2 ⟨x, List.mem_cons_self, by omega, by omega⟩
    have e3 : cnt (memB (x :: r)) (a + i + j) m = cnt (memB r) x.to m := by
      rw [show a + (i : Int) + j = x.to by omega]
      refine cnt_congr fun n h1 h2 => ?_
      rw [Bool.eq_iff_iff, memB_iff, memB_iff]
      constructor
      · rintro ⟨y, hy, h3, h4⟩
        rcases List.mem_cons.1 hy with rfl | hy
        · omega
        · exact ⟨y, hy, h3, h4⟩
      · rintro ⟨y, hy, h3⟩
        exact ⟨y, List.mem_cons_of_mem _ hy, h3⟩
    rw [ek, cnt_add, cnt_add, e1, e2, e3, ← ih]
    simp only [count]
    omega
end Go.Proofs.Ytclkaacdbhbigaa.Sp
