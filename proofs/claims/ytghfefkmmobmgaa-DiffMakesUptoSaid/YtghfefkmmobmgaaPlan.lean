/-
  A region that draws its order, walked once, in an order that is given: what only reads is taken first, what writes or makes memory comes up alone. No condition.
-/
import Derived.Test.YtghfefkmmobmgaaCalm
import Derived.Deep.RegionHeld3
namespace Go.Proofs.Ytghfefkmmobmgaa
open Go.RowKit

/-- Whatever lay in V lies in w as it did. (A word that the walk does not open.) -/
def Since (V w : World) : Prop := Below V.heap.size V w
theorem Since.refl (V : World) : Since V V := Below.refl _ _
theorem Since.drew {V w : World} (h : Since V w) : Since V w.drew := Below.drew h
theorem Since.alloc {V w : World} (h : Since V w) (o : Obj) : Since V (w.alloc o) := Below.alloc h (Below.size h) o
theorem Since.next {V w w' : World} (h : Since V w) (hb : Below w.heap.size w w') : Since V w' := below_next h (Nat.le_refl _) hb
theorem Since.below {V w : World} (h : Since V w) : Below V.heap.size V w := h
theorem Since.lt {V w : World} (h : Since V w) : V.heap.size ≤ w.heap.size := Below.size h
theorem Since.trans {U V w : World} (h : Since U V) (h' : Since V w) : Since U w := below_next h (Nat.le_refl _) h'
theorem Since.first (w : World) (o : Obj) : Since w (w.alloc o) := (Since.refl w).alloc o

section
variable {P : Program} {ops : Array Oper} {Q : Exit → Act → World → Prop} {S : World → Prop}

/-- The walk by a plan: of each operation its number, and whether it comes up alone. -/
def wpPlan (P : Program) (ops : Array Oper) (Q : Exit → Act → World → Prop) (S : World → Prop) : List (Nat × Bool) → Act → World → Prop
  | [], a, w => Q .normal a w
  | (i, solo) :: rest, a, w =>
    match ops[i]? with
    | none => False
    | some o =>
      if Region.wanted o (yielded ops a.tmps) = true then
        if solo = true then o.wp P a w (fun a' w' => S w' ∧ wpPlan P ops Q S rest a' w') Q
        else ∃ v, (∀ w, S w → (execOp a.eval o).run P w = .ok (.value v) w) ∧ wpPlan P ops Q S rest (a.put o.dst v) w
      else wpPlan P ops Q S rest (a.put o.dst undef) w

/-- May one go by this plan? -/
def planOk (ops : Array Oper) : List (Nat × Bool) → Array Bool → Bool
  | [], listed => (Region.ready .any ops listed).isEmpty
  | (i, solo) :: rest, listed => (if solo then Region.ready .any ops listed == [i] else Region.free .any ops listed i && (Region.ready .any ops listed).contains i) && planOk ops rest (listed.setIfInBounds i true)

theorem wpAnyH_plan (hs : Region.noSelect ops = true) (hQ : ∀ c a d v w, Q (.panic c) (Act.put a d v) w → Q (.panic c) a w) :
    ∀ (plan : List (Nat × Bool)) (listed : Array Bool) (a : Act) (w : World), planOk ops plan listed = true → S w → wpPlan P ops Q S plan a w → wpAnyH P .any ops Q S plan.length listed a w := by
  intro plan
  induction plan with
  | nil =>
    intro listed a w h _ hw
    simp only [planOk, List.isEmpty_iff] at h
    exact ⟨h, hw⟩
  | cons x rest ih =>
    obtain ⟨i, solo⟩ := x
    intro listed a w h hS hw
    simp only [planOk, Bool.and_eq_true] at h
    obtain ⟨h1, h2⟩ := h
    simp only [wpPlan] at hw
    cases ho : ops[i]? with
    | none => simp [ho] at hw
    | some o =>
      simp only [ho] at hw
      cases solo with
      | true =>
        simp only [if_true, beq_iff_eq] at h1 hw
        refine ⟨fun h0 => (by rw [h1] at h0; cases h0), fun j hj => ?_⟩
        rw [h1] at hj
        obtain rfl : j = i := by simpa using hj
        unfold wpOp
        simp only [ho]
        by_cases hwn : Region.wanted o (yielded ops a.tmps) = true
        · simp only [hwn, if_true] at hw ⊢
          left
          exact Oper.wp_mono (fun a1 w1 hk => ⟨hk.1, ih _ _ _ h2 hk.1 hk.2⟩) hw
        · simp only [hwn, if_false, Bool.false_eq_true] at hw ⊢
          exact ⟨hS, ih _ _ _ h2 hS hw⟩
      | false =>
        simp only [Bool.false_eq_true, if_false, Bool.and_eq_true] at h1 hw
        by_cases hwn : Region.wanted o (yielded ops a.tmps) = true
        · simp only [hwn, if_true] at hw
          obtain ⟨v, hv, hr⟩ := hw
          exact wpAnyH_take ho hs h1.1 h1.2 (fun c a w => hQ c a o.dst v w) (.inl ⟨hwn, hv⟩) hS (ih _ _ _ h2 hS hr)
        · simp only [hwn, if_false, Bool.false_eq_true] at hw
          exact wpAnyH_take (v := undef) ho hs h1.1 h1.2 (fun c a w => hQ c a o.dst undef w) (.inr ⟨by simpa using hwn, rfl⟩) hS (ih _ _ _ h2 hS hw)

theorem wp_region_plan (S : World → Prop) (plan : List (Nat × Bool)) {id : Nat} {l : List Oper} {a : Act} {w : World} (hm : P.follows .mixedOrders = true) (hs : Region.noSelect l.toArray = true)
    (hp : (decide (plan.length = l.length) && planOk l.toArray plan (Array.replicate l.toArray.size false)) = true)
    (hQ : ∀ c a d v w, Q (.panic c) (Act.put a d v) w → Q (.panic c) a w) (hS : S w.drew) (h : wpPlan P l.toArray Q S plan a w.drew) : (Code.region id l.toArray true).wp P Q a w := by
  simp only [Bool.and_eq_true, decide_eq_true_eq] at hp
  refine wp_region_held_drew hm hS (fun _ => ?_)
  have := wpAnyH_plan (S := S) hs hQ plan _ a w.drew hp.2 hS h
  rw [hp.1] at this
  simpa using this

theorem wpPlan_nil {a : Act} {w : World} (h : Q .normal a w) : wpPlan P ops Q S [] a w := h

theorem wpPlan_skip {i : Nat} {solo : Bool} {rest : List (Nat × Bool)} {o : Oper} {a : Act} {w : World} (ho : ops[i]? = some o) (hw : Region.wanted o (yielded ops a.tmps) = false)
    (h : wpPlan P ops Q S rest (a.put o.dst undef) w) : wpPlan P ops Q S ((i, solo) :: rest) a w := by
  simp only [wpPlan, ho, hw, Bool.false_eq_true, if_false]; exact h

theorem wpPlan_pure {i : Nat} {rest : List (Nat × Bool)} {o : Oper} {a : Act} {w : World} (ho : ops[i]? = some o) (hw : Region.wanted o (yielded ops a.tmps) = true)
    (v : Value) (hv : ∀ w, S w → (execOp a.eval o).run P w = .ok (.value v) w) (h : wpPlan P ops Q S rest (a.put o.dst v) w) : wpPlan P ops Q S ((i, false) :: rest) a w := by
  simp only [wpPlan, ho, hw, Bool.false_eq_true, if_false, if_true]; exact ⟨v, hv, h⟩

theorem wpPlan_solo {i : Nat} {rest : List (Nat × Bool)} {o : Oper} {a : Act} {w : World} (ho : ops[i]? = some o) (hw : Region.wanted o (yielded ops a.tmps) = true)
    (h : ∀ K : Act → World → Prop, Shut (∀ a w, S w → wpPlan P ops Q S rest a w → K a w) → o.wp P a w K Q) : wpPlan P ops Q S ((i, true) :: rest) a w := by
  simp only [wpPlan, ho, hw, if_true]; exact h _ (fun _ _ h1 h2 => ⟨h1, h2⟩)

theorem wanted_none {o : Oper} {y : Nat → Option Bool} (hg : o.guard = none) : Region.wanted o y = true := by simp [Region.wanted, hg]
theorem wanted_yes {o : Oper} {y : Nat → Option Bool} {j : Nat} {b : Bool} (hg : o.guard = some (j, b)) (hy : y j = some b) : Region.wanted o y = true := by simp [Region.wanted, hg, hy]
theorem unwanted {o : Oper} {y : Nat → Option Bool} {j : Nat} {b b' : Bool} (hg : o.guard = some (j, b)) (hy : y j = some b') (hn : (b' == b) = false) : Region.wanted o y = false := by
  simp only [beq_eq_false_iff_ne] at hn
  simp [Region.wanted, hg, hy, hn]
theorem unwanted_none {o : Oper} {y : Nat → Option Bool} {j : Nat} {b : Bool} (hg : o.guard = some (j, b)) (hy : y j = none) : Region.wanted o y = false := by simp [Region.wanted, hg, hy]

/-- The region whose number it is. -/
def regionOf (n : Nat) : Code → Option (Array Oper)
  | .region id ops _ => if id = n then some ops else none
  | .seq a b => (regionOf n a).orElse fun _ => regionOf n b
  | .block _ c => regionOf n c
  | .loop c => regionOf n c
  | .scope c => regionOf n c
  | .cond _ a b => (regionOf n a).orElse fun _ => regionOf n b
  | _ => none

/-! ### The text's own order -/

/-- The same in the text's own order: the operations themselves, and of each whether it comes up alone. -/
def wpLexP (P : Program) (ops : Array Oper) (Q : Exit → Act → World → Prop) (S : World → Prop) : List Oper → List Bool → Act → World → Prop
  | [], [], a, w => Q .normal a w
  | o :: rest, solo :: fl, a, w =>
    if Region.wanted o (yielded ops a.tmps) = true then
      if solo = true then o.wp P a w (fun a' w' => S w' ∧ wpLexP P ops Q S rest fl a' w') Q
      else ∃ v, (∀ w, S w → (execOp a.eval o).run P w = .ok (.value v) w) ∧ wpLexP P ops Q S rest fl (a.put o.dst v) w
    else wpLexP P ops Q S rest fl (a.put o.dst undef) w
  | _, _, _, _ => False

theorem wpPlan_lex : ∀ (l : List Oper) (fl : List Bool) (k : Nat) (a : Act) (w : World), (∀ j, l[j]? = ops[k + j]?) → wpLexP P ops Q S l fl a w → wpPlan P ops Q S ((List.range' k l.length).zip fl) a w := by
  intro l
  induction l with
  | nil => intro fl k a w _ h; cases fl <;> simp only [wpLexP] at h; simpa [wpPlan] using h
  | cons o l ih =>
    intro fl k a w hl h
    cases fl with
    | nil => simp [wpLexP] at h
    | cons s fl =>
      have h0 : ops[k]? = some o := by simpa using (hl 0).symm
      have ih' := fun a w => ih fl (k + 1) a w (fun j => by have := hl (j + 1); simpa [Nat.add_assoc, Nat.add_comm 1 j] using this)
      simp only [List.length_cons, List.range'_succ, List.zip_cons_cons, wpPlan, h0]
      simp only [wpLexP] at h
      split
      · rename_i hw
        simp only [hw, if_true] at h
        split
        · rename_i hs
          simp only [hs, if_true] at h
          exact Oper.wp_mono (fun a1 w1 hk => ⟨hk.1, ih' _ _ hk.2⟩) h
        · rename_i hs
          simp only [hs, Bool.false_eq_true, if_false] at h
          obtain ⟨v, hv, hr⟩ := h
          exact ⟨v, hv, ih' _ _ hr⟩
      · rename_i hw
        simp only [hw, if_false, Bool.false_eq_true] at h
        exact ih' _ _ h

/-- May the region be walked in the text's own order? One closed fact a region. -/
def lexOk (ops : Array Oper) (fl : List Bool) : Bool := Region.noSelect ops && (decide (((List.range' 0 ops.size).zip fl).length = ops.size) && planOk ops ((List.range' 0 ops.size).zip fl) (Array.replicate ops.size false))

theorem wp_region_lexp (S : World → Prop) (fl : List Bool) {id : Nat} {l : List Oper} {a : Act} {w : World} (hm : P.follows .mixedOrders = true) (hp : lexOk l.toArray fl = true)
    (hQ : ∀ c a d v w, Q (.panic c) (Act.put a d v) w → Q (.panic c) a w) (hS : S w.drew) (h : wpLexP P l.toArray Q S l fl a w.drew) : (Code.region id l.toArray true).wp P Q a w := by
  simp only [lexOk, List.size_toArray, Bool.and_eq_true] at hp
  exact wp_region_plan S _ hm hp.1 (by simpa only [List.size_toArray, Bool.and_eq_true] using hp.2) hQ hS (wpPlan_lex l fl 0 a w.drew (by simp) h)

theorem wpLexP_nil {a : Act} {w : World} (h : Q .normal a w) : wpLexP P ops Q S [] [] a w := h

theorem wpLexP_skip {solo : Bool} {fl : List Bool} {rest : List Oper} {o : Oper} {a : Act} {w : World} (hw : Region.wanted o (yielded ops a.tmps) = false)
    (h : wpLexP P ops Q S rest fl (a.put o.dst undef) w) : wpLexP P ops Q S (o :: rest) (solo :: fl) a w := by
  simp only [wpLexP, hw, Bool.false_eq_true, if_false]; exact h

theorem wpLexP_pure {fl : List Bool} {rest : List Oper} {o : Oper} {a : Act} {w : World} (hw : Region.wanted o (yielded ops a.tmps) = true)
    (v : Value) (hv : ∀ w, S w → (execOp a.eval o).run P w = .ok (.value v) w) (h : wpLexP P ops Q S rest fl (a.put o.dst v) w) : wpLexP P ops Q S (o :: rest) (false :: fl) a w := by
  simp only [wpLexP, hw, Bool.false_eq_true, if_false, if_true]; exact ⟨v, hv, h⟩

theorem wpLexP_solo {fl : List Bool} {rest : List Oper} {o : Oper} {a : Act} {w : World} (hw : Region.wanted o (yielded ops a.tmps) = true)
    (h : ∀ K : Act → World → Prop, Shut (∀ a w, S w → wpLexP P ops Q S rest fl a w → K a w) → o.wp P a w K Q) : wpLexP P ops Q S (o :: rest) (true :: fl) a w := by
  simp only [wpLexP, hw, if_true]; exact h _ (fun _ _ h1 h2 => ⟨h1, h2⟩)
end
attribute [irreducible] wpLexP
end Go.Proofs.Ytghfefkmmobmgaa
