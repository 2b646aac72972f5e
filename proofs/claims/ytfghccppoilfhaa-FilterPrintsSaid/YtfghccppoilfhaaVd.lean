/-
  What pure operations yield, part 2: parts of structs, rows, addresses, loads. Condition: the table of types says what the program's says.
-/
import Derived.Test.YtfghccppoilfhaaVc
namespace Go.Proofs.Ytfghccppoilfhaa.V
open Go.RowKit

/-! ### Lists -/
theorem takeD_spec : ∀ (n : Nat) (l r : List D), takeD n l = some r → r = l.take n ∧ n ≤ l.length
  | 0, l, r, h => by simp only [takeD, Option.some.injEq] at h; subst h; simp
  | n + 1, [], r, h => by cases h
  | n + 1, d :: l, r, h => by
    simp only [takeD] at h
    split at h
    · rename_i r' h1
      obtain ⟨h2, h3⟩ := takeD_spec n l r' h1
      injection h with h; subst h
      exact ⟨by simp [h2], by simp only [List.length_cons]; omega⟩
    · cases h
theorem dropD_eq : ∀ (n : Nat) (l : List D), dropD n l = l.drop n
  | 0, l => rfl
  | n + 1, [] => rfl
  | n + 1, d :: l => by simp only [dropD, List.drop_succ_cons]; exact dropD_eq n l
theorem lenL_eq : ∀ l : List D, lenL l = l.length
  | [] => rfl
  | _ :: r => by simp only [lenL, List.length_cons, lenL_eq r]
theorem putD_spec : ∀ (l : List D) (o : Nat) (vs l' : List D), putD l o vs = some l' → l'.length = l.length ∧ o + vs.length ≤ l.length ∧ ∀ j, l'[j]? = if o ≤ j ∧ j < o + vs.length then vs[j - o]? else l[j]?
  | l, 0, [], l', h => by
    have : l' = l := by cases l <;> simpa [putD, eq_comm] using h
    subst this; exact ⟨rfl, by simp, fun j => by rw [if_neg (by simp only [List.length_nil]; omega)]⟩
  | d :: l, 0, v :: vs, l', h => by
    simp only [putD] at h
    split at h
    · rename_i r h1
      obtain ⟨h2, h3, h4⟩ := putD_spec l 0 vs r h1
      injection h with h; subst h
      refine ⟨by simp [h2], by simp only [List.length_cons]; omega, fun j => ?_⟩
      cases j with
      | zero => simp
      | succ j =>
        simp only [List.getElem?_cons_succ, h4 j, List.length_cons]
        by_cases hj : j < vs.length
        · rw [if_pos (by omega), if_pos (by omega)]; simp
        · rw [if_neg (by omega), if_neg (by omega)]
    · cases h
  | [], 0, _ :: _, l', h => by simp [putD] at h
  | d :: l, o + 1, vs, l', h => by
    simp only [putD] at h
    split at h
    · rename_i r h1
      obtain ⟨h2, h3, h4⟩ := putD_spec l o vs r h1
      injection h with h; subst h
      refine ⟨by simp [h2], by simp only [List.length_cons]; omega, fun j => ?_⟩
      cases j with
      | zero => simp
      | succ j =>
        simp only [List.getElem?_cons_succ, h4 j]
        by_cases hj : o ≤ j ∧ j < o + vs.length
        · rw [if_pos hj, if_pos (by omega), show j + 1 - (o + 1) = j - o by omega]
        · rw [if_neg hj, if_neg (by omega)]
    · cases h
  | [], o + 1, vs, l', h => by cases vs <;> simp [putD] at h

theorem addr_add (b o n : Nat) : (⟨b, o, none⟩ : Addr).add n = ⟨b, o + n, none⟩ := by unfold Addr.add; split <;> simp_all

section
variable {P : Program} {tt : TT} {C : Ctx}

theorem reps_drop {l : List D} {c : List Value} (h : reps C l c) (n : Nat) : reps C (l.drop n) (c.drop n) :=
  ⟨by simp [h.1], fun j d u hd hu => h.2 (n + j) d u (by simpa using hd) (by simpa using hu)⟩
theorem reps_take {l : List D} {c : List Value} (h : reps C l c) (n : Nat) : reps C (l.take n) (c.take n) := by
  refine ⟨by simp [h.1], fun j d u hd hu => ?_⟩
  have hj : j < n := by have := (List.getElem?_eq_some_iff.1 hd).1; simp at this; omega
  rw [List.getElem?_take_of_lt hj] at hd hu
  exact h.2 j d u hd hu
theorem reps_agg {l : List D} {c : List Value} (h : reps C l c) : Rep C (.agg l) (.agg c.toArray) := .agg (by simp [h.1]) fun j d u a b => h.2 j d u a (by simpa using b)
theorem reps_get {l : List D} {c : List Value} (h : reps C l c) {j : Nat} {d : D} (hd : l[j]? = some d) : ∃ u, c[j]? = some u ∧ Rep C d u := by
  have hj := (List.getElem?_eq_some_iff.1 hd).1
  have hc : j < c.length := by have := h.1; omega
  exact ⟨c[j], List.getElem?_eq_getElem hc, h.2 j d _ hd (List.getElem?_eq_getElem hc)⟩
theorem reps_nil : reps C [] [] := ⟨rfl, fun j d u h => by simp at h⟩
theorem reps_cons {d : D} {u : Value} {l : List D} {c : List Value} (h : Rep C d u) (hr : reps C l c) : reps C (d :: l) (u :: c) :=
  ⟨by simp [hr.1], fun j d' u' a b => by cases j with
    | zero => simp only [List.getElem?_cons_zero, Option.some.injEq] at a b; subst a b; exact h
    | succ j => exact hr.2 j d' u' (by simpa using a) (by simpa using b)⟩
theorem reps_append {l l' : List D} {c c' : List Value} (h : reps C l c) (h' : reps C l' c') : reps C (l ++ l') (c ++ c') := by
  refine ⟨by simp [h.1, h'.1], fun j d u a b => ?_⟩
  by_cases hj : j < l.length
  · rw [List.getElem?_append_left hj] at a
    rw [List.getElem?_append_left (by rw [h.1]; exact hj)] at b
    exact h.2 j d u a b
  · rw [List.getElem?_append_right (by omega)] at a
    rw [List.getElem?_append_right (by rw [h.1]; omega)] at b
    exact h'.2 _ d u a (by rw [h.1] at b; exact b)
theorem reps.mono {C' : Ctx} {l : List D} {c : List Value} (h : reps C l c) (hle : C.Le C') : reps C' l c := ⟨h.1, fun j d u a b => (h.2 j d u a b).mono hle⟩

theorem ofCells_val {ti : TI} {l : List D} {c : List Value} {d : D} (h : ofCellsD ti l = some d) (hr : reps C l c) :
    ∃ v, Rep C d v ∧ (ti.ud.isRow = true → ti.size ≤ c.length ∧ v = .agg (c.take ti.size).toArray) ∧ (ti.ud.isRow = false → c[0]? = some v) := by
  unfold ofCellsD at h
  split at h
  · rename_i hrow
    split at h
    · rename_i r h1
      injection h with h; subst h
      obtain ⟨rfl, h3⟩ := takeD_spec _ _ _ h1
      exact ⟨_, reps_agg (reps_take hr _), fun _ => ⟨by rw [hr.1]; exact h3, rfl⟩, (fun h => by rw [hrow] at h; cases h)⟩
    · cases h
  · rename_i hrow
    split at h
    · rename_i x y
      injection h with h; subst h
      obtain ⟨u, h1, h2⟩ := reps_get hr (j := 0) rfl
      exact ⟨u, h2, (fun h => by rw [hrow] at h; cases h), fun _ => h1⟩
    · cases h

theorem isAgg_run {t : TypeId} {d : TypeDesc} (h : P.underlying t = some d) (w : World) : (Go.isAgg t).run P w = .ok d.isRow w := by
  unfold Go.isAgg
  rw [Sem.run_bind, run_und h]
  cases d <;> rfl

theorem part_run {t : TypeId} {ti : TI} {d : D} {l : List D} {c : Array Value} {off : Nat} (ht : viewOf P t = some ti) (hr : reps C l c.toList) (h : ofCellsD ti (dropD off l) = some d) :
    ∃ v, Rep C d v ∧ ∀ w, (part t c off).run P w = .ok v w := by
  rw [dropD_eq] at h
  obtain ⟨v, h1, h2, h3⟩ := ofCells_val h (reps_drop hr off)
  obtain ⟨de, i, z, g1, g2, _, g4, g5, _⟩ := view_spec ht
  refine ⟨v, h1, fun w => ?_⟩
  have hrow : de.isRow = ti.ud.isRow := by rw [← g4, ud_row]
  cases hq : ti.ud.isRow with
  | true =>
    obtain ⟨h4, rfl⟩ := h2 hq
    simp only [part, Sem.run_bind, isAgg_run g1, hrow, hq, Result.andThen_ok, if_true, run_size g2, Sem.run_pure]
    congr 2
    rw [g5]
    apply Array.ext'
    simp [Array.toList_extract, List.extract_eq_take_drop]
  | false =>
    have h4 := h3 hq
    have h5 : c[off]? = some v := by simpa using h4
    simp only [part, Sem.run_bind, isAgg_run g1, hrow, hq, Result.andThen_ok, Bool.false_eq_true, if_false, h5, Sem.run_pure]

def cellsAt (w : World) (b o : Nat) (c : List Value) : Prop := ∀ (j : Nat) u, c[j]? = some u → w.cell? ⟨b, o + j, none⟩ = some u

theorem load_run {t : TypeId} {ti : TI} {d : D} {l : List D} {c : List Value} {b o : Nat} (ht : viewOf P t = some ti) (hr : reps C l c) (h : ofCellsD ti l = some d) :
    ∃ v, Rep C d v ∧ ∀ w, cellsAt w b o c → (Instr.loadAt t (.pointer (some ⟨b, o, none⟩))).run P w = .ok v w := by
  obtain ⟨v, h1, h2, h3⟩ := ofCells_val h hr
  obtain ⟨de, i, z, g1, g2, _, g4, g5, _⟩ := view_spec ht
  refine ⟨v, h1, fun w hc => ?_⟩
  have hrow : de.isRow = ti.ud.isRow := by rw [← g4, ud_row]
  cases hq : ti.ud.isRow with
  | true =>
    obtain ⟨h4, rfl⟩ := h2 hq
    refine run_loadAt_mid w b o t _ de (fun j u hu => ?_) g1 (hrow.trans hq) (by rw [g2]; simp [g5]; omega)
    have hj : j < ti.size := by have := (List.getElem?_eq_some_iff.1 hu).1; simp at this; omega
    rw [List.getElem?_take_of_lt hj] at hu
    exact hc j u hu
  | false =>
    have h4 := hc 0 v (h3 hq)
    simp only [Instr.loadAt, Instr.sureAddr, loadVar, Sem.run_bind, Sem.run_pure, Result.andThen_ok, isAgg_run g1, hrow, hq, Bool.false_eq_true, if_false]
    simp only [load, Sem.run]
    simp only [Nat.add_zero] at h4
    rw [h4]
end
end Go.Proofs.Ytfghccppoilfhaa.V
