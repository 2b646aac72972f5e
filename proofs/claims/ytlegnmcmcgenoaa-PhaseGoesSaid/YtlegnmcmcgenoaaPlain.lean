/-
  The plain laws of layer 21. Conditions: a flag is a byte.
-/
import Derived.Test.YtlegnmcmcgenoaaWalks
namespace Go.Proofs.Ytlegnmcmcgenoaa

/-- The phases that a flow has here. -/
def okPhase (p : Int) (b : Bool) : Prop := (p = 1 ∧ b = false) ∨ (p = 2 ∧ b = false) ∨ (p = 3 ∧ b = false) ∨ (p = 5 ∧ b = true)

def rstOf (a : Int) : Bool := a / 4 % 2 == 1

theorem byte_all (P : Int → Prop) (h : ∀ n : Fin 256, P (n.val : Int)) (a : Int) (h0 : 0 ≤ a) (h1 : a ≤ 255) : P a := by
  obtain ⟨n, rfl⟩ := Int.eq_ofNat_of_zero_le h0
  exact h ⟨n, by omega⟩

def okB (p : Int) (b : Bool) : Bool := (p == 1 && !b) || (p == 2 && !b) || (p == 3 && !b) || (p == 5 && b)
theorem ok_of_B {p : Int} {b : Bool} (h : okB p b = true) : okPhase p b := by
  unfold okB at h; unfold okPhase
  cases b <;> simp_all <;> omega

theorem first_ok (a : Int) (h0 : 0 ≤ a) (h1 : a ≤ 255) : okPhase (pFirst a) (rstOf a) :=
  byte_all (fun a => okPhase (pFirst a) (rstOf a)) (fun n => ok_of_B ((by decide +kernel : ∀ n : Fin 256, okB (pFirst (n.val : Int)) (rstOf (n.val : Int)) = true) n)) a h0 h1

theorem next_ok (p a : Int) (b : Bool) (h : okPhase p b) (h0 : 0 ≤ a) (h1 : a ≤ 255) : okPhase (pNext p a) (b || rstOf a) := by
  refine byte_all (fun a => okPhase (pNext p a) (b || rstOf a)) (fun n => ok_of_B ?_) a h0 h1
  rcases h with ⟨rfl, rfl⟩ | ⟨rfl, rfl⟩ | ⟨rfl, rfl⟩ | ⟨rfl, rfl⟩
  · exact (by decide +kernel : ∀ n : Fin 256, okB (pNext 1 (n.val : Int)) (false || rstOf (n.val : Int)) = true) n
  · exact (by decide +kernel : ∀ n : Fin 256, okB (pNext 2 (n.val : Int)) (false || rstOf (n.val : Int)) = true) n
  · exact (by decide +kernel : ∀ n : Fin 256, okB (pNext 3 (n.val : Int)) (false || rstOf (n.val : Int)) = true) n
  · exact (by decide +kernel : ∀ n : Fin 256, okB (pNext 5 (n.val : Int)) (true || rstOf (n.val : Int)) = true) n

theorem first_same (a : Int) (h0 : 0 ≤ a) (h1 : a ≤ 255) : (pFirst a == rFirst a) = true :=
  byte_all (fun a => (pFirst a == rFirst a) = true) (fun n => (by decide +kernel : ∀ n : Fin 256, (pFirst (n.val : Int) == rFirst (n.val : Int)) = true) n) a h0 h1

theorem next_same (p a : Int) (h0 : 0 ≤ a) (h1 : a ≤ 255) : (pNext p a == rNext p a) = true := by
  refine byte_all (fun a => (pNext p a == rNext p a) = true) (fun n => ?_) a h0 h1
  have hp : p < 1 ∨ p = 1 ∨ p = 2 ∨ p = 3 ∨ 3 < p := by omega
  rcases hp with h | rfl | rfl | rfl | h
  · have e1 : (p != 1 && p != 2 && p != 3) = true := by simp; omega
    simp [pNext, rNext, h, e1]
  · exact (by decide +kernel : ∀ n : Fin 256, (pNext 1 (n.val : Int) == rNext 1 (n.val : Int)) = true) n
  · exact (by decide +kernel : ∀ n : Fin 256, (pNext 2 (n.val : Int) == rNext 2 (n.val : Int)) = true) n
  · exact (by decide +kernel : ∀ n : Fin 256, (pNext 3 (n.val : Int) == rNext 3 (n.val : Int)) = true) n
  · have e1 : (p != 1 && p != 2 && p != 3) = true := by simp; omega
    have e2 : ¬ p < 1 := by omega
    simp [pNext, rNext, h, e1, e2]
end Go.Proofs.Ytlegnmcmcgenoaa
