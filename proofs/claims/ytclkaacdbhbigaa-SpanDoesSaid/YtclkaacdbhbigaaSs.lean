/-
  Numbers that came, the document's way: rows of bounds in any order, plainly. No condition.
-/
import Derived.Test.YtclkaacdbhbigaaSr
namespace Go.Proofs.Ytclkaacdbhbigaa.Sp

/-- Whether a number came. -/
def has (L : List (Int × Int)) (n : Int) : Bool := L.any fun x => decide (x.1 ≤ n) && decide (n < x.2)
def beh1 (at_ best e : Int) : Int := match decide (at_ < e) && decide (e < best) with
  | true => e
  | false => best
def beh2 (at_ best : Int) (x : Int × Int) : Int := beh1 at_ (beh1 at_ best x.1) x.2
/-- The next bound behind a place. -/
def beh (at_ : Int) : List (Int × Int) → Int → Int
  | [], best => best
  | x :: r, best => beh at_ r (beh2 at_ best x)
theorem beh_append (at_ : Int) : ∀ (l m : List (Int × Int)) (b : Int), beh at_ (l ++ m) b = beh at_ m (beh at_ l b)
  | [], _, _ => rfl
  | x :: r, m, b => beh_append at_ r m (beh2 at_ b x)
theorem beh1_spec {at_ best e : Int} (h : at_ < best) : at_ < beh1 at_ best e ∧ beh1 at_ best e ≤ best ∧ (at_ < e → beh1 at_ best e ≤ e) := by
  unfold beh1
  split
  · rename_i hh
    simp only [Bool.and_eq_true, decide_eq_true_eq] at hh
    exact ⟨hh.1, by omega, fun _ => Int.le_refl _⟩
  · rename_i hh
    simp only [Bool.and_eq_false_iff, decide_eq_false_iff_not] at hh
    exact ⟨h, Int.le_refl _, fun _ => by omega⟩
theorem beh2_spec {at_ best : Int} {x : Int × Int} (h : at_ < best) : at_ < beh2 at_ best x ∧ beh2 at_ best x ≤ best ∧ (at_ < x.1 → beh2 at_ best x ≤ x.1) ∧ (at_ < x.2 → beh2 at_ best x ≤ x.2) := by
  obtain ⟨h1, h2, h3⟩ := beh1_spec (e := x.1) h
  obtain ⟨h4, h5, h6⟩ := beh1_spec (e := x.2) h1
  exact ⟨h4, by show beh1 _ _ _ ≤ _; omega, fun hh => by have := h3 hh; show beh1 _ _ _ ≤ _; omega, h6⟩
theorem beh_spec {at_ : Int} : ∀ {L : List (Int × Int)} {best : Int}, at_ < best → at_ < beh at_ L best ∧ beh at_ L best ≤ best ∧ ∀ x, x ∈ L → (at_ < x.1 → beh at_ L best ≤ x.1) ∧ (at_ < x.2 → beh at_ L best ≤ x.2)
  | [], best, h => ⟨h, Int.le_refl _, fun x hx => by cases hx⟩
  | y :: r, best, h => by
    obtain ⟨h1, h2, h3, h4⟩ := beh2_spec (x := y) h
    obtain ⟨h5, h6, h7⟩ := beh_spec (L := r) h1
    refine ⟨h5, by show beh at_ r _ ≤ _; omega, fun x hx => ?_⟩
    rcases List.mem_cons.1 hx with rfl | hx
    · exact ⟨fun hh => by have := h3 hh; show beh at_ r _ ≤ _; omega, fun hh => by have := h4 hh; show beh at_ r _ ≤ _; omega⟩
    · exact h7 x hx
/-- Up to the next bound it is alike. -/
theorem has_like {L : List (Int × Int)} {at_ best n : Int} (h : at_ < best) (h1 : at_ ≤ n) (h2 : n < beh at_ L best) : has L n = has L at_ := by
  obtain ⟨_, _, h3⟩ := beh_spec (L := L) h
  have key : ∀ x, x ∈ L → (decide (x.1 ≤ n) && decide (n < x.2)) = (decide (x.1 ≤ at_) && decide (at_ < x.2)) := fun x hx => by
    obtain ⟨h4, h5⟩ := h3 x hx
    have e1 : (x.1 ≤ n) ↔ (x.1 ≤ at_) := by
      constructor
      · intro hh
        by_cases hq : at_ < x.1
        · have := h4 hq; omega
        · omega
      · intro hh; omega
    have e2 : (n < x.2) ↔ (at_ < x.2) := by
      constructor
      · intro hh; omega
      · intro hh; have := h5 hh; omega
    rw [decide_eq_decide.2 e1, decide_eq_decide.2 e2]
  unfold has
  rw [Bool.eq_iff_iff, List.any_eq_true, List.any_eq_true]
  exact ⟨fun ⟨x, hx, h⟩ => ⟨x, hx, by rw [← key x hx]; exact h⟩, fun ⟨x, hx, h⟩ => ⟨x, hx, by rw [key x hx]; exact h⟩⟩
/-- One more stretch counted. -/
theorem cnt_stretch {L : List (Int × Int)} {a at_ best : Int} {k j : Nat} (hk : at_ = a + k) (h : at_ < best) (hj : beh at_ L best = at_ + j) : cnt (has L) a (k + j) = cnt (has L) a k + (match has L at_ with
    | true => (j : Int)
    | false => 0) := by
  rw [cnt_add, ← hk]
  cases hq : has L at_ with
  | true => rw [cnt_all (f := has L) (a := at_) (k := j) fun n h1 h2 => by rw [has_like h h1 (by omega), hq]]
  | false => rw [cnt_none (f := has L) (a := at_) (k := j) fun n h1 h2 => by rw [has_like h h1 (by omega), hq]]
end Go.Proofs.Ytclkaacdbhbigaa.Sp
