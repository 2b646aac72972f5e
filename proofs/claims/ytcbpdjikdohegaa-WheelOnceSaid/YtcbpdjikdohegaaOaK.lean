/-
  The plain law of WheelOnce: the row of alarms that are due, against the row in order. No condition.
-/
import Derived.Test.YtcbpdjikdohegaaWyK
namespace Go.Proofs.Ytcbpdjikdohegaa.V
open Go.RowKit

abbrev Keys (V : List Al) : Prop := V.Pairwise fun a b => a.id ≠ b.id
theorem Keys.perm {V L : List Al} (h : Keys L) (hp : V.Perm L) : Keys V := (List.Perm.pairwise_iff (fun {a b} h => Ne.symm h) hp).2 h
theorem Keys.at {V : List Al} (h : Keys V) {i j : Nat} {x y : Al} (hi : V[i]? = some x) (hj : V[j]? = some y) (he : x.id = y.id) : i = j := by
  obtain ⟨h1, rfl⟩ := List.getElem?_eq_some_iff.1 hi
  obtain ⟨h2, rfl⟩ := List.getElem?_eq_some_iff.1 hj
  have hp := List.pairwise_iff_getElem.1 h
  rcases Nat.lt_trichotomy i j with h3 | h3 | h3
  · exact absurd he (hp i j h1 h2 h3)
  · exact h3
  · exact absurd he.symm (hp j i h2 h1 h3)
theorem Keys.eq {V : List Al} (h : Keys V) {x y : Al} (hx : x ∈ V) (hy : y ∈ V) (he : x.id = y.id) : x = y := by
  obtain ⟨i, hi⟩ := List.getElem?_of_mem hx
  obtain ⟨j, hj⟩ := List.getElem?_of_mem hy
  obtain rfl := h.at hi hj he
  rw [hi] at hj; injection hj
theorem outOf_step (n : Int) {V : List Al} {i : Nat} {x : Al} (hx : V[i]? = some x) : outOf n (V.take (i + 1)) = outOf n (V.take i) ++ (match isId n x with | true => [] | false => [x]) := by
  rw [take_snoc hx]
  unfold outOf
  rw [List.filter_append]
  cases h : isId n x <;> simp [h]
theorem out_at {n : Int} {V : List Al} (hk : Keys V) {i : Nat} {x : Al} (hx : V[i]? = some x) : decide ((i : Int) = findI (isId n) V) = isId n x := by
  rcases findI_cases (isId n) V with ⟨h1, h2⟩ | ⟨k, y, h1, h2, h3, _⟩
  · rw [h1, h2 x (List.mem_of_getElem? hx)]
    exact decide_eq_false (by omega)
  · rw [h1]
    by_cases he : i = k
    · subst he
      rw [hx] at h2; injection h2 with h2; subst h2
      rw [h3]; exact decide_eq_true rfl
    · rw [decide_eq_false (by omega)]
      refine (Bool.eq_false_iff.2 fun h => he ?_).symm
      exact hk.at hx h2 ((of_decide_eq_true h : x.id = n).trans (of_decide_eq_true h3 : y.id = n).symm)
theorem outOf_perm {n : Int} {V L : List Al} (h : V.Perm L) : (outOf n V).Perm (outOf n L) := h.filter _
theorem outOf_head {u : Al} {L : List Al} (h : Keys (u :: L)) : outOf u.id (u :: L) = L := by
  unfold outOf
  rw [List.filter_cons_of_neg (by simp [isId])]
  refine List.filter_eq_self.2 fun x hx => ?_
  have := (List.pairwise_cons.1 h).1 x hx
  simp [isId]; exact fun e => this e.symm
theorem any_perm {n : Int} {V L : List Al} (h : V.Perm L) : V.any (isId n) = L.any (isId n) := by
  cases h1 : L.any (isId n) with
  | true =>
    obtain ⟨x, h2, h3⟩ := List.any_eq_true.1 h1
    exact List.any_eq_true.2 ⟨x, h.mem_iff.2 h2, h3⟩
  | false => exact List.any_eq_false.2 fun x hx => List.any_eq_false.1 h1 x (h.mem_iff.1 hx)
theorem at_le {L : List Al} (hs : Sorted L) {i : Nat} {x y : Al} (hx : L[i]? = some x) (hy : L[i + 1]? = some y) : x.at_ ≤ y.at_ := by
  obtain ⟨h1, rfl⟩ := List.getElem?_eq_some_iff.1 hx
  obtain ⟨h2, rfl⟩ := List.getElem?_eq_some_iff.1 hy
  have := ahead_iff.1 (List.pairwise_iff_getElem.1 hs i (i + 1) h1 h2 (Nat.lt_succ_self _))
  omega

/-- Where the telling stands: of the row that was told so many were looked for; the others are due still. -/
structure TInv (now end_ : Int) (U L V : List Al) (k : Nat) (last : Int) : Prop where
  le : k ≤ U.length
  perm : V.Perm (U.drop k ++ L)
  last : match k with
    | 0 => last = now
    | j + 1 => ∃ u, U[j]? = some u ∧ last = u.at_
theorem TInv.step {now end_ : Int} {U L V : List Al} {k : Nat} {last : Int} (h : TInv now end_ U L V k last) (hs : Sorted (U ++ L)) (hk : Keys (U ++ L)) (hU : ∀ u, u ∈ U → now < u.at_ ∧ u.at_ ≤ end_) {u : Al} (hu : U[k]? = some u) :
    ∃ (j : Nat) (y : Al), findI (isId u.id) V = j ∧ V[j]? = some y ∧ y.at_ = u.at_ ∧ Keys V ∧ now < u.at_ ∧ u.at_ ≤ end_ ∧ last ≤ u.at_ ∧ TInv now end_ U L (outOf u.id V) (k + 1) u.at_ := by
  obtain ⟨h1, h2, h3⟩ := h
  have hlt := (List.getElem?_eq_some_iff.1 hu).1
  have hdrop : U.drop k = u :: U.drop (k + 1) := by
    rw [List.drop_eq_getElem_cons hlt]
    congr 1
    exact (List.getElem?_eq_some_iff.1 hu).2
  rw [hdrop, List.cons_append] at h2
  have hkk : Keys (u :: (U.drop (k + 1) ++ L)) := by
    have : (u :: (U.drop (k + 1) ++ L)).Sublist (U ++ L) := by
      rw [← List.cons_append, ← hdrop]
      exact (List.drop_sublist k U).append (List.Sublist.refl L)
    exact List.Pairwise.sublist this hk
  have hkV : Keys V := hkk.perm h2
  have huV : u ∈ V := h2.mem_iff.2 (.head _)
  have hUs : Sorted U := (List.pairwise_append.1 hs).1
  obtain ⟨g1, g2⟩ := hU u (List.mem_of_getElem? hu)
  have hlast : last ≤ u.at_ := by
    cases k with
    | zero => have h3 : last = now := h3; omega
    | succ j =>
      obtain ⟨x, e1, e2⟩ := h3
      rw [e2]; exact at_le hUs e1 hu
  have hnext : TInv now end_ U L (outOf u.id V) (k + 1) u.at_ := by
    refine ⟨hlt, ?_, u, hu, rfl⟩
    have := outOf_perm (n := u.id) h2
    rwa [outOf_head hkk] at this
  rcases findI_cases (isId u.id) V with ⟨e1, e2⟩ | ⟨j, y, e1, e2, e3, _⟩
  · have := e2 u huV
    rw [show isId u.id u = true from decide_eq_true rfl] at this; cases this
  · have hy : y = u := hkV.eq (List.mem_of_getElem? e2) huV (of_decide_eq_true e3)
    exact ⟨j, y, e1, e2, by rw [hy], hkV, g1, g2, hlast, hnext⟩
end Go.Proofs.Ytcbpdjikdohegaa.V
