/-
  How often the tape was asked never falls. No condition.
-/
import Derived.WalkKit
import Derived.Below
namespace Go.Proofs.Ytfghccppoilfhaa.V
open Go.RowKit

theorem ask_mono {α : Type} : ∀ (a : Ask α) (w : World), w.drawn ≤ (w.ask a).2.drawn
  | .done _, w => Nat.le_refl _
  | .ask what range k, w => by
    unfold World.ask
    simp only
    split
    · exact ask_mono (k 0) w
    · exact Nat.le_trans (Nat.le_succ _) (ask_mono (k _) { w with drawn := w.drawn + 1 })
theorem sys_mono (w : World) (c : Sys) : w.drawn ≤ (w.sys c).2.drawn := by
  unfold World.sys
  split
  · exact Nat.le_refl _
  · rename_i r os w' _ h
    have := ask_mono (Kernel.perform c w.os) w
    rw [h] at this
    exact this
theorem farStore_mono {P : Program} {w w' : World} {a : Addr} {v : Value} {at_ : Bool} {l : List Addr} (h : w.farStore P a v at_ = .ok (w', l)) : w'.drawn = w.drawn := by
  unfold World.farStore at h
  split at h
  · split at h
    · rename_i r h1
      injection h with h; subst h
      unfold World.viewStore at h1
      simp only [bind, Except.bind, pure, Except.pure] at h1
      repeat' split at h1
      all_goals first
        | (cases h1; done)
        | (injection h1 with h1; injection h1 with h1 h2; subst h1; rfl)
    · cases h
  · cases h
theorem freeze_drawn (w : World) (a : Addr) (n : Nat) : (w.freeze a n).drawn = w.drawn := by
  unfold World.freeze; split <;> rfl
theorem run_mono {P : Program} {α : Type} : ∀ (s : Sem α) (w : World) (v : α) (w' : World), s.run P w = .ok v w' → w.drawn ≤ w'.drawn := by
  intro s
  induction s with
  | pure a => intro w v w' h; simp only [Sem.run] at h; injection h with _ h; subst h; exact Nat.le_refl _
  | load m a k ih =>
    intro w v w' h
    simp only [Sem.run] at h
    split at h
    · exact ih _ w v w' h
    · split at h
      · exact ih _ w v w' h
      · cases h
  | store m a u k ih =>
    intro w v w' h
    cases u <;> simp only [Sem.run] at h <;> first
      | (cases h; done)
      | (split at h
         · split at h
           · cases h
           · (have h2 := ih _ v w' h; exact h2)
         · split at h
           · rename_i w1 l h1
             have := ih w1 v w' h
             rw [farStore_mono h1] at this
             exact this
           · cases h)
  | new o k ih => intro w v w' h; simp only [Sem.run] at h; have h2 := ih _ _ v w' h; exact h2
  | shape r k ih => intro w v w' h; simp only [Sem.run] at h; have h2 := ih _ _ v w' h; exact h2
  | freeze a n k ih => intro w v w' h; simp only [Sem.run] at h; have := ih _ v w' h; rw [freeze_drawn] at this; exact this
  | frozen a k ih => intro w v w' h; simp only [Sem.run] at h; have h2 := ih _ _ v w' h; exact h2
  | getObj r k ih =>
    intro w v w' h
    simp only [Sem.run] at h
    split at h
    · cases h
    · exact ih _ _ v w' h
    · cases h
  | setObj r o k ih =>
    intro w v w' h
    simp only [Sem.run] at h
    split at h
    · cases h
    · have h2 := ih _ v w' h
      exact h2
    · cases h
  | choose q k ih =>
    intro w v w' h
    simp only [Sem.run] at h
    split at h
    · exact ih _ _ v w' h
    · exact Nat.le_trans (Nat.le_succ _) (ih _ _ v w' h)
  | sys c k ih => intro w v w' h; simp only [Sem.run] at h; exact Nat.le_trans (sys_mono w c) (ih _ _ v w' h)
  | program k ih => intro w v w' h; simp only [Sem.run] at h; have h2 := ih _ _ v w' h; exact h2
  | mark m k ih => intro w v w' h; simp only [Sem.run] at h; exact ih _ v w' h
  | halt x => intro w v w' h; simp only [Sem.run] at h; cases h
structure Under (B : Nat) (w w' : World) : Prop extends Below B w w' where
  drawn : w.drawn ≤ w'.drawn
theorem Under.refl (B : Nat) (w : World) : Under B w w := ⟨Below.refl B w, Nat.le_refl _⟩
theorem Under.trans {B : Nat} {a b c : World} (h : Under B a b) (k : Under B b c) : Under B a c := ⟨h.toBelow.trans k.toBelow, Nat.le_trans h.drawn k.drawn⟩
end Go.Proofs.Ytfghccppoilfhaa.V
