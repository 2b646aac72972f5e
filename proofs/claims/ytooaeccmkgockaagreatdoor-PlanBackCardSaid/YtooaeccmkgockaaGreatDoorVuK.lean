/-
  Clusters of one's own objects as one thing: what holds of a family of objects, in one predicate; contracts with a cluster. Conditions: the table of types says what the program's says; functions are entered; plans are ones.
-/
import Derived.Test.YtooaeccmkgockaaGreatDoorK1
namespace Go.Proofs.YtooaeccmkgockaaGreatDoor.V
open Go.RowKit

/-! ### A part of the objects -/
section
variable {P : Program} {tt : TT} {pl : Plans} {s : St} {K : D → St → Prop} {f : FuncId} {args : List D} {E : Env} {H : List (Nat × LO)} {nx : Nat} {σ : Nat → Nat} {τ : Nat → Value} {w : World}

/-! ### Clusters -/
/-! ### New clusters -/
def NewS (P : Program) (f : FuncId) (args : List D) (Q : SepA → Prop) : Prop :=
  hasBody P f ∧ ∀ (w : World) (B : Nat → Prop) (args' : List Value), (∀ b, B b → b < w.heap.size) → reps (baseCtx w B) args args' →
    Calls P f args'.toArray w fun e w' => ∃ b A S, Q A ∧ e = .returned (.pointer (some ⟨b, 0, none⟩)) ∧ Under w.heap.size w w' ∧ (∀ k, S k → w.heap.size ≤ k ∧ k < w'.heap.size) ∧ A.R (baseCtx w' fun k => (B k ∨ w.heap.size ≤ k) ∧ k < w'.heap.size ∧ ¬ S k) b S
theorem NewS.mono {args : List D} {Q Q' : SepA → Prop} (h : NewS P f args Q) (hq : ∀ A, Q A → Q' A) : NewS P f args Q' :=
  ⟨h.1, fun w B args' h1 h2 => (h.2 w B args' h1 h2).mono fun _ _ ⟨b, A, S, q1, q2⟩ => ⟨b, A, S, hq _ q1, q2⟩⟩

theorem CallVC.news {g : Bool} {Q : SepA → Prop} (hf : NewS P f args Q) (hcut : args.all (cutOk 6 0) = true) (h : ∀ A S, Q A → K (.loc s.nx 0) ⟨s.F, (s.nx, .obj (.sep S A)) :: s.H, s.nx + 1, s.G⟩) : CallVC P g f args s K := by
  refine ⟨hf.1, fun E σ τ a w args' hs hr => ?_⟩
  have hr' : reps (baseCtx w (ctxOf E s.H s.nx σ τ w).ok) args args' := ⟨hr.1, fun j d u hd hu => (cut_rep 6 d _ u (all_at hcut hd) (hr.2 j d u hd hu)).mono ⟨fun _ _ _ h => h, fun _ h => h, fun _ _ _ h => absurd h.1 (Nat.not_lt_zero _), fun _ _ h => absurd h.1 (Nat.not_lt_zero _), fun _ _ _ h => absurd h.1 (Nat.not_lt_zero _)⟩⟩
  refine (hf.2 w _ args' (fun b hb => hb.2.1) hr').mono fun e w' hh => ?_
  obtain ⟨b, A, S, hq, rfl, hu, hS, hR⟩ := hh
  have howned : ∀ id k, owned ((s.nx, .obj (.sep S A)) :: s.H) (setN σ s.nx b) τ id k → (id = s.nx ∧ S k) ∨ (id ≠ s.nx ∧ owned s.H σ τ id k) := by
    intro id k ho
    by_cases hi : id = s.nx
    · subst hi
      rcases ho with ⟨_, _, h1, _⟩ | ⟨_, _, _, _, _, h1, _⟩ | ⟨o, h1, h2⟩
      · rw [lget_same] at h1; cases h1
      · rw [lget_same] at h1; cases h1
      · rw [lget_same] at h1
        injection h1 with h1; injection h1 with h1; subst h1
        exact .inl ⟨rfl, h2⟩
    · refine .inr ⟨hi, ?_⟩
      have e0 : setN σ s.nx b id = σ id := by simp [setN, hi]
      rcases ho with ⟨_, _, h1, h2⟩ | ⟨_, _, _, _, _, h1, h2⟩ | ⟨o, h1, h2⟩
      · rw [lget_ne _ _ hi] at h1; rw [e0] at h2; exact .inl ⟨_, _, h1, h2⟩
      · rw [lget_ne _ _ hi] at h1; exact .inr (.inl ⟨_, _, _, _, _, h1, h2⟩)
      · rw [lget_ne _ _ hi] at h1; rw [e0] at h2; exact .inr (.inr ⟨_, h1, h2⟩)
  have hle : (ctxOf E s.H s.nx σ τ w).Le (ctxOf E ((s.nx, .obj (.sep S A)) :: s.H) (s.nx + 1) (setN σ s.nx b) τ w') := by
    refine ⟨fun k o hk ho => (hu.block k hk.2.1).trans ho, fun k hk => ⟨hk.1, Nat.lt_of_lt_of_le hk.2.1 hu.size, fun id ho => ?_⟩, fun id off v hv => ?_, fun id v hv => ⟨Nat.lt_succ_of_lt hv.1, hv.2⟩, fun id off v hv => ⟨Nat.lt_succ_of_lt hv.1, hv.2⟩⟩
    · rcases howned id k ho with ⟨_, h2⟩ | ⟨_, h2⟩
      · have := (hS k h2).1
        have : k < w.heap.size := hk.2.1
        omega
      · exact hk.2.2 id h2
    · obtain ⟨h1, rfl⟩ := hv
      exact ⟨Nat.lt_succ_of_lt h1, by simp [setN, show id ≠ s.nx by omega]⟩
  have hle2 : (baseCtx w' fun k => ((ctxOf E s.H s.nx σ τ w).ok k ∨ w.heap.size ≤ k) ∧ k < w'.heap.size ∧ ¬ S k).Le (ctxOf E ((s.nx, .obj (.sep S A)) :: s.H) (s.nx + 1) (setN σ s.nx b) τ w').still := by
    refine ⟨fun _ _ _ h => h, fun k hk => ?_, fun _ _ _ h => h, fun _ _ h => h, fun _ _ _ h => h⟩
    obtain ⟨hk1, hk2, hk3⟩ := hk
    refine ⟨?_, hk2, fun id ho => ?_⟩
    · rcases hk1 with hk1 | hk1
      · exact hk1.1
      · exact .inr (.inr (Nat.le_trans hs.heap.kept.size hk1))
    · rcases howned id k ho with ⟨_, h2⟩ | ⟨_, h2⟩
      · exact hk3 h2
      · rcases hk1 with hk1 | hk1
        · exact hk1.2.2 id h2
        · have := owned_lt hs.heap h2; omega
  refine ⟨_, _, setN σ s.nx b, τ, _, h A S hq, rfl, ⟨⟨hs.heap.kept.below hu, hs.heap.few, fun id el l hl => ?_, fun id α el e enc L hl => ?_, fun p q k h1 h2 => ?_, fun id o hl => ?_, hs.heap.slices, fun id o hl => ?_⟩, hs.defers, hs.size, fun j d hd => (hs.slots j d hd).mono hle, hs.ghost_le (s' := ⟨s.F, (s.nx, .obj (.sep S A)) :: s.H, s.nx + 1, s.G⟩) rfl hle, Nat.le_succ_of_le hs.room⟩, .loc ⟨Nat.lt_succ_self _, by simp [setN]⟩, fun _ => hu.toBelow⟩
  · have hi : id ≠ s.nx := by rintro rfl; rw [lget_same] at hl; cases hl
    rw [lget_ne _ _ hi] at hl
    have e0 : setN σ s.nx b id = σ id := by simp [setN, hi]
    rw [e0]
    obtain ⟨h1, c, h2, h3, h4⟩ := hs.heap.cells id el l hl
    exact ⟨h1, c, (hu.block _ (Array.getElem?_eq_some_iff.1 h2).1).trans h2, h3, fun j d u hd hu => (h4 j d u hd hu).mono hle⟩
  · have hi : id ≠ s.nx := by rintro rfl; rw [lget_same] at hl; cases hl
    rw [lget_ne _ _ hi] at hl
    obtain ⟨h1, xs, h2, h3, h4⟩ := hs.heap.grow id α el e enc L hl
    exact ⟨h1, xs, own_below h2 hu.toBelow, h3, fun p x j d u hx hd hu => (h4 p x j d u hx hd hu).mono hle.still⟩
  · rcases howned p k h1 with ⟨h3, h4⟩ | ⟨h3, h4⟩ <;> rcases howned q k h2 with ⟨h5, h6⟩ | ⟨h5, h6⟩
    · rw [h3, h5]
    · have := (hS k h4).1; have := owned_lt hs.heap h6; omega
    · have := (hS k h6).1; have := owned_lt hs.heap h4; omega
    · exact hs.heap.apart p q k h4 h6
  · by_cases hi : id = s.nx
    · subst hi; exact Nat.lt_succ_self _
    · rw [lget_ne _ _ hi] at hl; exact Nat.lt_succ_of_lt (hs.heap.below id o hl)
  · by_cases hi : id = s.nx
    · subst hi
      rw [lget_same] at hl
      injection hl with hl; injection hl with hl; subst hl
      have e0 : setN σ s.nx b s.nx = b := by simp [setN]
      rw [e0]
      exact ⟨fun k hk => ⟨.inr (Nat.le_trans hs.heap.kept.size (hS k hk).1), (hS k hk).2⟩, SepA.mono A (C := baseCtx w' fun k => ((ctxOf E s.H s.nx σ τ w).ok k ∨ w.heap.size ≤ k) ∧ k < w'.heap.size ∧ ¬ S k) (C' := ctxOf E ((s.nx, .obj (.sep S A)) :: s.H) (s.nx + 1) (setN σ s.nx b) τ w') hR (fun _ _ _ h => h) hle2⟩
    · rw [lget_ne _ _ hi] at hl
      have e0 : setN σ s.nx b id = σ id := by simp [setN, hi]
      rw [e0]
      obtain ⟨h1, h2⟩ := hs.heap.obj id o hl
      exact ⟨fun k hk => ⟨(h1 k hk).1, Nat.lt_of_lt_of_le (h1 k hk).2 hu.size⟩, OA.at_le h2 (fun k hk => hu.block k (h1 k hk).2) hle.still⟩
end
end Go.Proofs.YtooaeccmkgockaaGreatDoor.V
