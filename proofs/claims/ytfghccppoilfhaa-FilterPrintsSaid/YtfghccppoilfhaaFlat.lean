/-
  What a struct, an array or a slice element that reads as a datum holds in each of its cells. No condition beyond the reading itself.
-/
import Derived.WalkKit
import Derived.ProofKit
import Derived.OpenShut
import Derived.Deep.Slices
namespace Go.Proofs.Ytfghccppoilfhaa
open Go.ChangeShapes Go.WideShapes Go.ChangeAt Go.RowKit

def fieldAt (P : Program) (off : Nat) : List Field → Nat → Option (Nat × Field)
  | [], _ => none
  | f :: fs, i => if f.offset ≤ off ∧ off < f.offset + P.cellsOf f.type then some (i, f) else fieldAt P off fs (i + 1)

def cellAt (P : Program) : Nat → TypeId → Nat → Option TypeId
  | 0, _, _ => none
  | d + 1, t, off =>
    match P.underlying t with
    | some (.struct fs) => match fieldAt P off fs.toList 0 with
      | some (_, f) => cellAt P d f.type (off - f.offset)
      | none => none
    | some (.array n e) => if off / P.cellsOf e < n ∧ 0 < P.cellsOf e then cellAt P d e (off - off / P.cellsOf e * P.cellsOf e) else none
    | some _ => if P.cellsOf t = 1 ∧ off = 0 then some t else none
    | none => none

theorem fieldAt_spec {P : Program} {off : Nat} : ∀ (l : List Field) (i j : Nat) (f : Field), fieldAt P off l i = some (j, f) →
    i ≤ j ∧ l[j - i]? = some f ∧ f.offset ≤ off ∧ off < f.offset + P.cellsOf f.type := by
  intro l
  induction l with
  | nil => intro i j f h; simp [fieldAt] at h
  | cons g l ih =>
    intro i j f h
    unfold fieldAt at h
    split at h
    · rename_i hc
      simp only [Option.some.injEq, Prod.mk.injEq] at h
      obtain ⟨rfl, rfl⟩ := h
      exact ⟨Nat.le_refl _, by simp, hc.1, hc.2⟩
    · obtain ⟨h1, h2, h3, h4⟩ := ih _ _ _ h
      refine ⟨by omega, ?_, h3, h4⟩
      have : j - i = (j - (i + 1)) + 1 := by omega
      rw [this]; simpa using h2

section
variable {H : Type} {enc : TypeId × Value → H} {P : Program} {w : World} {base : Nat} {spare : Nat → Bool} {held : Bool}

theorem trod_cell (d : Nat) : ∀ (t u : TypeId) (off fuel : Nat) (cs : List Value) (x : DataW H × List MemPlace),
    DataW.trod enc P w base spare held fuel t cs = some x → cellAt P d t off = some u →
    ∃ v fuel' y, cs[off]? = some v ∧ DataW.trod enc P w base spare held fuel' u [v] = some y := by
  induction d with
  | zero => intro t u off fuel cs x _ h; simp [cellAt] at h
  | succ d ih =>
    intro t u off fuel cs x hx h
    unfold cellAt at h
    split at h
    · rename_i fs ht
      split at h
      · rename_i i f hf
        obtain ⟨_, h2, h3, h4⟩ := fieldAt_spec _ _ _ _ hf
        obtain ⟨xs, n, rfl, rfl, hl, hlen, hall⟩ := DataW.trod_struct ht hx
        have hi : fs[i]? = some f := by simpa using h2
        have hlt : i < fs.size := by
          rcases Nat.lt_or_ge i fs.size with h' | h'
          · exact h'
          · rw [Array.getElem?_eq_none h'] at hi; cases hi
        have := hall i f hi
        rw [List.getElem?_eq_getElem (by omega)] at this
        obtain ⟨v, fuel', y, hv, hy⟩ := ih _ _ _ _ _ _ this h
        refine ⟨v, fuel', y, ?_, hy⟩
        rw [List.getElem?_take_of_lt (by omega), List.getElem?_drop] at hv
        rw [← hv]; congr 1; omega
      · cases h
    · rename_i n e ht
      split at h
      · rename_i hc
        obtain ⟨xs, m, rfl, rfl, hl, hlen, hall⟩ := DataW.trod_array ht hx
        have := hall (off / P.cellsOf e) hc.1
        rw [List.getElem?_eq_getElem (by omega)] at this
        obtain ⟨v, fuel', y, hv, hy⟩ := ih _ _ _ _ _ _ this h
        refine ⟨v, fuel', y, ?_, hy⟩
        have h1 := Nat.div_add_mod off (P.cellsOf e)
        have h2 := Nat.mod_lt off hc.2
        rw [Nat.mul_comm] at h1
        rw [List.getElem?_take_of_lt (by omega), List.getElem?_drop] at hv
        rw [← hv]; congr 1; omega
      · cases h
    · rename_i h1 h2 hu0
      split at h
      · rename_i hc
        simp only [Option.some.injEq] at h
        subst h
        obtain ⟨hc1, rfl⟩ := hc
        -- one cell: the list has one element
        cases fuel with
        | zero => simp [DataW.trod] at hx
        | succ n =>
          have hx' := hx
          unfold DataW.trod at hx
          have hone : ∃ v, cs = [v] := by
            match cs with
            | [] => split at hx <;> first | contradiction | (rename_i hh; injection hh with q1 q2; cases q2; done) | (rename_i hh; rw [hu0] at hh; cases hh; first | exact (h1 _ rfl).elim | exact (h2 _ _ rfl).elim)
            | [v] => exact ⟨v, rfl⟩
            | a :: b :: r => split at hx <;> first | contradiction | (rename_i hh; injection hh with q1 q2; cases q2; done) | (rename_i hh; rw [hu0] at hh; cases hh; first | exact (h1 _ rfl).elim | exact (h2 _ _ rfl).elim)
          obtain ⟨v, rfl⟩ := hone
          exact ⟨v, n + 1, x, rfl, hx'⟩
      · cases h
    · cases h

theorem trod_cell_int {d : Nat} {t u : TypeId} {k : IntKind} {off fuel : Nat} {cs : List Value} {x : DataW H × List MemPlace}
    (hx : DataW.trod enc P w base spare held fuel t cs = some x) (hc : cellAt P d t off = some u) (hu : P.underlying u = some (.int k)) :
    ∃ n, cs[off]? = some (.int k n) ∧ (Lit.int k n).wf = true := by
  obtain ⟨v, fuel', y, hv, hy⟩ := trod_cell d _ _ _ _ _ _ hx hc
  obtain ⟨n, h1, _, h3⟩ := DataW.trod_int hu hy
  simp only [List.cons.injEq, and_true] at h1
  subst h1
  exact ⟨n, hv, h3⟩

end
end Go.Proofs.Ytfghccppoilfhaa
