/-
  Nets of a configuration that may be have no address in common; to which addresses there is a way. No program. Conditions: as each law says.
-/
import Derived.Test.YtejkambjfcpagaaLives
namespace Go.Proofs.Ytejkambjfcpagaa

theorem in_disjoint {a n m b c : Int} (h1 : inB a n b = true) (h2 : inB a m c = true) (hx : inB m n b = false) (hy : inB n m c = false) : False := by
  unfold inB at *
  simp only [beq_iff_eq, beq_eq_false_iff_ne] at *
  have key : ∀ (p q : Nat) (x y : Int), p ≤ q → a / 2 ^ p = x / 2 ^ p → a / 2 ^ q = y / 2 ^ q → x / 2 ^ q = y / 2 ^ q := by
    intro p q x y hpq e1 e2
    rw [← e2]
    have : (2 : Int) ^ q = 2 ^ p * 2 ^ (q - p) := by rw [← Int.pow_add]; congr 1; omega
    rw [this, ← Int.ediv_ediv_of_nonneg (Int.pow_nonneg (by omega)), ← Int.ediv_ediv_of_nonneg (Int.pow_nonneg (by omega)), e1]
  rcases Nat.le_total (32 - nbits b) (32 - nbits c) with h | h
  · exact hy (key _ _ _ _ h h1 h2)
  · exact hx (key _ _ _ _ h h2 h1)

/-- In the net of a card, and no host there. -/
def nf (z : Nat → Int) (a : Int) (k : Nat) : Bool := inB a (z (12 + k)) (z (14 + k)) && !hostB a (z (12 + k)) (z (14 + k))

theorem host_in {a n b : Int} (h : hostB a n b = true) : inB a n b = true := by
  unfold hostB at h; simp only [Bool.and_eq_true] at h; exact h.1.2

theorem of_right {z : Nat → Int} {a : Int} (hr : rightR z = true) (hs : specB a = false) :
    ∃ n x e, ofV a z = placeV n x e ∧ (e = 2 ∧ (nf z a 0 || nf z a 1) = true ∨ e = 0 ∧ (nf z a 0 || nf z a 1) = false) := by
  unfold rightR at hr
  simp only [Bool.and_eq_true, Bool.not_eq_true'] at hr
  have d1 : inB (z 13) (z 12) (z 14) = false := by simp only [hr]
  have d2 : inB (z 12) (z 13) (z 15) = false := by simp only [hr]
  have hg : hostB (z 16) (z 12) (z 14) = true := by simp only [hr]
  have hd : ¬ (inB a (z 12) (z 14) = true ∧ inB a (z 13) (z 15) = true) := fun h => in_disjoint h.1 h.2 d1 d2
  unfold ofV nf
  simp only [hs, hg, Nat.add_zero, Nat.reduceAdd]
  cases h0 : hostB a (z 12) (z 14)
  · cases h1 : hostB a (z 13) (z 15)
    · cases i0 : inB a (z 12) (z 14) <;> cases i1 : inB a (z 13) (z 15) <;> simp only [Bool.false_eq_true, if_false, if_true] <;> exact ⟨_, _, _, rfl, by simp⟩
    · have i1 := host_in h1
      cases i0 : inB a (z 12) (z 14)
      · simp only [Bool.false_eq_true, if_false, if_true]; exact ⟨_, _, _, rfl, by simp⟩
      · exact absurd ⟨i0, i1⟩ hd
  · have i0 := host_in h0
    cases i1 : inB a (z 13) (z 15)
    · simp only [Bool.false_eq_true, if_false, if_true]; exact ⟨_, _, _, rfl, by simp⟩
    · exact absurd ⟨i0, i1⟩ hd
end Go.Proofs.Ytejkambjfcpagaa
