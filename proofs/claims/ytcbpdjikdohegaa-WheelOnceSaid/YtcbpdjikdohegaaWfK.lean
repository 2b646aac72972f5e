/-
  How long rows are on the wheel. No condition.
-/
import Derived.Test.YtcbpdjikdohegaaWdK
namespace Go.Proofs.Ytcbpdjikdohegaa.V
open Go.RowKit
theorem fold_len (now : Int) : ∀ (l : List Al) (R : Nat → List Al) (j : Nat), ((l.foldl (laidR now) R) j).length ≤ (R j).length + l.length
  | [], R, j => Nat.le_refl _
  | x :: l, R, j => by
    have ih := fold_len now l (laidR now R x) j
    have : ((laidR now R x) j).length ≤ (R j).length + 1 := by
      unfold laidR
      by_cases h : j = plc now x.at_
      · subst h; rw [upd_same, List.length_append]; exact Nat.le_refl _
      · rw [upd_ne _ _ h]; omega
    rw [List.foldl_cons, List.length_cons]
    omega
theorem upd_nil_len {R : Nat → List Al} {n k : Nat} (h : ∀ j, (R j).length ≤ n) (j : Nat) : (upd R k [] j).length ≤ n := by
  by_cases hj : j = k
  · subst hj; rw [upd_same]; exact Nat.zero_le _
  · rw [upd_ne _ _ hj]; exact h j
end Go.Proofs.Ytcbpdjikdohegaa.V
