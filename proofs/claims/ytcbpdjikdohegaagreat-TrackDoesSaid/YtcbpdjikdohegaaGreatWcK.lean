/-
  Wheels: what is asked without turning; ticks at which wheels begin; the map and the row know the same. Conditions: numbers are of their types.
-/
import Derived.Test.YtcbpdjikdohegaaGreatWbK
namespace Go.Proofs.YtcbpdjikdohegaaGreat.V
open Go.RowKit
attribute [local irreducible] Fn FnN OpVC Ob

theorem in_fn (n lo hi : Int) : Fn Tryz.prog 27 [intD n, intD lo, intD hi] fun d => d = intD (match decide (n < lo) with
    | true => lo
    | false => match decide (hi < n) with
      | true => hi
      | false => n) := by
  refine fnOf [] Tryz.func27 rfl (by kernel_rfl) (Nat.le_of_ble_eq_true rfl) ?_
  conv => whnf
  cases h1 : decide (n < lo) with
  | true => conv => whnf
  | false =>
    conv => whnf
    cases h2 : decide (hi < n) with
    | true => conv => whnf
    | false => conv => whnf

def newN (n : Int) : Int := match decide (n < 0) with
  | true => 0
  | false => match decide (1073741824 < n) with
    | true => 1073741824
    | false => n
theorem newN_in (n : Int) : 0 ≤ newN n ∧ newN n ≤ 1073741824 := by
  unfold newN
  split
  · omega
  · rename_i h1; have := of_decide_eq_false h1
    split
    · omega
    · rename_i h2; have := of_decide_eq_false h2; omega
theorem newN_min (n : Int) : min (max n 0) 1073741824 = newN n := by
  unfold newN
  split
  · rename_i h1; have := of_decide_eq_true h1; omega
  · rename_i h1; have := of_decide_eq_false h1
    split
    · rename_i h2; have := of_decide_eq_true h2; omega
    · rename_i h2; have := of_decide_eq_false h2; omega

theorem findI_nonneg {α : Type} {p : α → Bool} {L : List α} : decide (0 ≤ findI p L) = L.any p := by
  unfold findI
  cases h : L.findIdx? p with
  | none =>
    have := List.findIdx?_eq_none_iff.1 h
    have h2 : L.any p = false := by rw [List.any_eq_false]; intro x hx; simp [this x hx]
    rw [h2]; rfl
  | some i =>
    obtain ⟨hi, h3, _⟩ := List.findIdx?_eq_some_iff_getElem.1 h
    have h2 : L.any p = true := by rw [List.any_eq_true]; exact ⟨L[i], List.getElem_mem _, h3⟩
    rw [h2]
    exact decide_eq_true (by show (0 : Int) ≤ (i : Int); omega)
theorem insP_mem (a : Al) (L : List Al) : ∀ k, k ≤ L.length → (insP a L k).1.Perm (match (insP a L k).2 with
    | true => a :: L.take k
    | false => L.take k)
  | 0, _ => by simp [insP]
  | k + 1, hk => by
    have ih := insP_mem a L k (by omega)
    have hx : L[k]? = some L[k] := List.getElem?_eq_getElem hk
    rw [insP, hx]
    have ht : L.take (k + 1) = L.take k ++ [L[k]] := by rw [List.take_add_one, hx]; rfl
    generalize insP a L k = st at ih
    obtain ⟨o, i⟩ := st
    cases i with
    | true =>
      simp only at ih ⊢
      rw [ht]
      exact ih.append_right [L[k]]
    | false =>
      simp only at ih ⊢
      split
      · simp only
        rw [ht]
        have h1 : (o ++ [a] ++ [L[k]]).Perm (a :: o ++ [L[k]]) := (List.perm_append_comm (l₁ := o) (l₂ := [a])).append_right _
        exact h1.trans (List.Perm.cons a (ih.append_right _))
      · simp only
        rw [ht]
        exact ih.append_right _
theorem insF_perm (a : Al) (L : List Al) : (insF a L).Perm (a :: L) := by
  have h := insP_mem a L L.length (Nat.le_refl _)
  rw [List.take_length] at h
  unfold insF
  generalize insP a L L.length = st at h
  obtain ⟨o, i⟩ := st
  cases i with
  | true => exact h
  | false => exact (h.append_right [a]).trans List.perm_append_comm
theorem mfind_push (n : Int) (x : ME) : ∀ M : List ME, mfind n (M ++ [x]) = match mfind n M with
    | some v => some v
    | none => if n = x.1 then some x.2.1 else none
  | [] => rfl
  | y :: r => by
    show (if n = y.1 then some y.2.1 else mfind n (r ++ [x])) = _
    rw [mfind_push n x r, mfind]
    split
    · rfl
    · rfl
theorem each_one {α : Type} {l : List α} {k : Nat} {a : α} {Q : α → Prop} (hak : l[k]? = some a) (h : Q a) : ∀ x, l[((k : Nat) : Int).toNat]? = some x → Q x := by
  intro x hx
  have hx' : l[k]? = some x := hx
  rw [hak] at hx'
  injection hx' with hx'
  exact hx' ▸ h

end Go.Proofs.YtcbpdjikdohegaaGreat.V
