/-
  Regions: in the text's order; whichever order is drawn. Conditions: the table of types says what the program's says; plans are ones.
-/
import Derived.Test.YtfghccppoilfhaaVn
import Derived.OrdersHeld
namespace Go.Proofs.Ytfghccppoilfhaa.V
open Go.RowKit

section
variable {P : Program} {ops : Array Oper} {Q : Exit → Act → World → Prop}

def wpAnyJ (P : Program) (ops : Array Oper) (Q : Exit → Act → World → Prop) (T : Nat → World → World → Prop) : Nat → Array Bool → Act → World → Prop
  | 0, listed, a, w => Region.ready .any ops listed = [] ∧ Q .normal a w
  | fuel + 1, listed, a, w =>
    (Region.ready .any ops listed = [] → Q .normal a w) ∧
    ∀ i ∈ Region.ready .any ops listed, wpOp P ops Q i (fun a' w' => T i w w' ∧ wpAnyJ P ops Q T fuel (listed.setIfInBounds i true) a' w') a w

theorem wpAny_of_J {T : Nat → World → World → Prop} : ∀ (fuel : Nat) (listed : Array Bool) (a : Act) (w : World), wpAnyJ P ops Q T fuel listed a w → wpAny P .any ops Q fuel listed a w
  | 0, _, _, _, h => h
  | fuel + 1, _, _, _, h => ⟨h.1, fun i hi => wpOp_mono (fun a' w' h' => wpAny_of_J fuel _ a' w' h'.2) (h.2 i hi)⟩

def unrelated (ops : Array Oper) (i j : Nat) : Bool :=
  match ops[i]?, ops[j]? with
  | some x, some y => !(x.after.any fun e => Region.binds .any e && e.on == j) && !(y.after.any fun e => Region.binds .any e && e.on == i)
  | _, _ => false

theorem unrelated_of_ready {i j : Nat} {oi oj : Oper} {listed : Array Bool} (hi : ops[i]? = some oi) (hj : ops[j]? = some oj) (hri : i ∈ Region.ready .any ops listed) (hrj : j ∈ Region.ready .any ops listed) : unrelated ops i j = true := by
  have key : ∀ {i j : Nat} {oi : Oper}, ops[i]? = some oi → i ∈ Region.ready .any ops listed → j ∈ Region.ready .any ops listed → (oi.after.any fun e => Region.binds .any e && e.on == j) = false := by
    intro i j oi hi hri hrj
    rw [Array.any_eq_false']
    intro e he hc
    simp only [Bool.and_eq_true, beq_iff_eq] at hc
    obtain ⟨_, o, ho, hall⟩ := mem_ready.1 hri
    rw [hi] at ho; injection ho with ho; subst ho
    have h1 := hall e he hc.1
    have h0 := (mem_ready.1 hrj).1
    rw [hc.2] at h1
    rcases Nat.lt_or_ge j listed.size with h' | h'
    · simp [h'] at h0 h1; rw [h0] at h1; cases h1
    · simp [Array.getElem?_eq_none h'] at h1
  unfold unrelated
  rw [hi, hj]
  simp only [key hi hri hrj, key hj hrj hri, Bool.not_false, Bool.and_self]

end

/-! ### Who waits for whom, through others -/
def ancOf (acc : List Nat) (k : Nat) : List Edge → Nat
  | [] => 0
  | e :: r => Nat.lor (match Region.binds .any e, Nat.blt e.on k with
    | true, true => Nat.lor (Nat.pow 2 e.on) (match acc[k - 1 - e.on]? with
      | some b => b
      | none => 0)
    | _, _ => 0) (ancOf acc k r)
def ancs : List Oper → Nat → List Nat → List Nat
  | [], _, acc => acc
  | o :: r, k, acc => ancs r (k + 1) (ancOf acc k o.after.toList :: acc)
def ancBit (ops : Array Oper) (j i : Nat) : Bool := match (ancs ops.toList 0 [])[ops.size - 1 - j]? with
  | some b => Nat.testBit b i
  | none => false

def Closed (ops : Array Oper) (listed : Array Bool) : Prop := ∀ (j : Nat) o, ops[j]? = some o → listed.getD j true = true → j < listed.size → ∀ e ∈ o.after, Region.binds .any e = true → e.on < listed.size → listed.getD e.on true = true

def Anc (ops : Array Oper) (listed : Array Bool) (k b : Nat) : Prop := ∀ i, Nat.testBit b i = true → i < listed.size → listed.getD k true = true → listed.getD i true = true

theorem testBit_lor (a b i : Nat) : Nat.testBit (Nat.lor a b) i = (Nat.testBit a i || Nat.testBit b i) := Nat.testBit_or a b i

theorem ancs_spec {ops : Array Oper} {listed : Array Bool} (hc : Closed ops listed) (hn : listed.size = ops.size) : ∀ (l : List Oper) (k : Nat) (acc : List Nat), (∀ j, l[j]? = ops[k + j]?) → acc.length = k → (∀ i b, acc[k - 1 - i]? = some b → i < k → Anc ops listed i b) →
    (ancs l k acc).length = k + l.length ∧ ∀ i b, (ancs l k acc)[k + l.length - 1 - i]? = some b → i < k + l.length → Anc ops listed i b := by
  intro l
  induction l with
  | nil => intro k acc _ hl h; exact ⟨by simpa [ancs] using hl, fun i b hb hi => h i b (by simpa [ancs] using hb) (by simpa using hi)⟩
  | cons o r ih =>
    intro k acc hget hl h
    have h0 : ops[k]? = some o := by simpa using (hget 0).symm
    have hk : k < ops.size := (Array.getElem?_eq_some_iff.1 h0).1
    have hanc : Anc ops listed k (ancOf acc k o.after.toList) := by
      have key : ∀ (es : List Edge), (∀ e ∈ es, e ∈ o.after) → Anc ops listed k (ancOf acc k es) := by
        intro es
        induction es with
        | nil => intro _ i hb; simp [ancOf] at hb
        | cons e es ihe =>
          intro hes i hb hi hlk
          simp only [ancOf] at hb
          rw [testBit_lor] at hb
          rcases Bool.or_eq_true_iff.1 hb with hb | hb
          · split at hb
            · rename_i hbind hlt
              have hlt : e.on < k := (Nat.blt_eq ▸ hlt : _ < _)
              have hon : listed.getD e.on true = true := hc k o h0 hlk (by omega) e (hes e List.mem_cons_self) hbind (by omega)
              rw [testBit_lor] at hb
              rcases Bool.or_eq_true_iff.1 hb with hb | hb
              · have : i = e.on := by
                  have h1 : Nat.testBit (2 ^ e.on) i = true := hb
                  rw [Nat.testBit_two_pow] at h1
                  have h2 : e.on = i := by simpa using h1
                  exact h2.symm
                subst this; exact hon
              · split at hb
                · rename_i b hacc
                  exact h e.on b hacc hlt i hb hi hon
                · simp at hb
            · simp at hb
          · exact ihe (fun e' he' => hes e' (List.mem_cons_of_mem _ he')) i hb hi hlk
      exact key o.after.toList (fun e he => by simpa using he)
    have := ih (k + 1) (ancOf acc k o.after.toList :: acc) (fun j => by have := hget (j + 1); simpa [Nat.add_assoc, Nat.add_comm 1 j] using this) (by simp [hl]) (fun i b hb hi => by
      by_cases hik : i = k
      · subst hik
        simp only [Nat.add_sub_cancel, Nat.sub_self, List.getElem?_cons_zero, Option.some.injEq] at hb
        subst hb; exact hanc
      · rw [show k + 1 - 1 - i = (k - 1 - i) + 1 by omega, List.getElem?_cons_succ] at hb
        exact h i b hb (by omega))
    simp only [ancs, List.length_cons]
    rw [show k + (r.length + 1) = k + 1 + r.length by omega]
    exact this

theorem ancBit_spec {ops : Array Oper} {listed : Array Bool} (hc : Closed ops listed) (hn : listed.size = ops.size) {i j : Nat} (h : ancBit ops j i = true) (hi : i < ops.size) (hj : j < ops.size) (hl : listed.getD j true = true) : listed.getD i true = true := by
  unfold ancBit at h
  split at h
  · rename_i b hb
    have := (ancs_spec hc hn ops.toList 0 [] (fun j => by simp) rfl (fun i b h => by simp at h)).2 j b (by simpa using hb) (by simpa using hj)
    exact this i h (by omega) hl
  · cases h

theorem closed_first (ops : Array Oper) : Closed ops (Array.replicate ops.size false) := by
  intro j o _ hl hj
  have hj' : j < ops.size := by simpa using hj
  rw [Array.getD_eq_getD_getElem?] at hl
  simp [hj'] at hl

theorem closed_next {ops : Array Oper} {listed : Array Bool} {i : Nat} (hc : Closed ops listed) (hr : i ∈ Region.ready .any ops listed) : Closed ops (listed.setIfInBounds i true) := by
  obtain ⟨hun, oi, hoi, hall⟩ := mem_ready.1 hr
  intro j o ho hl hj e he hb hon
  simp only [Array.size_setIfInBounds] at hj hon
  have mono : ∀ k, listed.getD k true = true → (listed.setIfInBounds i true).getD k true = true := by
    intro k hk
    by_cases hik : i = k
    · subst hik
      rw [Array.getD_eq_getD_getElem?]
      rcases Nat.lt_or_ge i listed.size with h' | h' <;> simp [h']
    · rw [getD_set_ne true hik]; exact hk
  by_cases hij : i = j
  · subst hij
    rw [hoi] at ho; injection ho with ho; subst ho
    refine mono _ ?_
    have h1 := hall e he hb
    rw [Array.getD_eq_getD_getElem?] at h1 ⊢
    simp only [hon, Array.getElem?_eq_getElem, Option.getD_some] at h1 ⊢
    exact h1
  · rw [getD_set_ne true hij] at hl
    exact mono _ (hc j o ho hl hj e he hb hon)

def farApart (ops : Array Oper) (i j : Nat) : Bool := unrelated ops i j && !ancBit ops i j && !ancBit ops j i

theorem far_of_ready {ops : Array Oper} {i j : Nat} {oi oj : Oper} {listed : Array Bool} (hc : Closed ops listed) (hn : listed.size = ops.size) (hij : i ≠ j) (hi : ops[i]? = some oi) (hj : ops[j]? = some oj) (hri : i ∈ Region.ready .any ops listed) (hrj : j ∈ Region.ready .any ops listed) : farApart ops i j = true := by
  have key : ∀ {i j : Nat} {oi : Oper}, i ≠ j → ops[i]? = some oi → ops.size > j → i ∈ Region.ready .any ops listed → j ∈ Region.ready .any ops listed → ancBit ops i j = false := by
    intro i j oi hne hi hjs hri hrj
    cases hb : ancBit ops i j with
    | false => rfl
    | true =>
      exfalso
      have his : i < ops.size := (Array.getElem?_eq_some_iff.1 hi).1
      have h1 := ancBit_spec (closed_next hc hri) (by simpa using hn) hb hjs his (by rw [Array.getD_eq_getD_getElem?]; simp [hn, his])
      rw [getD_set_ne true hne] at h1
      have h0 := (mem_ready.1 hrj).1
      have h2 : listed.getD j true = false := by
        rw [Array.getD_eq_getD_getElem?] at h0 ⊢
        simp only [hn, hjs, Array.getElem?_eq_getElem, Option.getD_some] at h0 ⊢
        exact h0
      rw [h2] at h1; cases h1
  unfold farApart
  rw [unrelated_of_ready hi hj hri hrj, key hij hi (Array.getElem?_eq_some_iff.1 hj).1 hri hrj, key (Ne.symm hij) hj (Array.getElem?_eq_some_iff.1 hi).1 hrj hri]
  rfl

section
variable {P : Program} {ops : Array Oper} {Q : Exit → Act → World → Prop}

theorem wpAnyJ_first {T : Nat → World → World → Prop} {i : Nat} {oi : Oper} {v : Value} {Y : World → Prop} (hi : ops[i]? = some oi) (hsel : ∀ (j : Nat) (o : Oper) cs b, ops[j]? = some o → o.op ≠ .select cs b)
    (hQ : ∀ c a w, Q (.panic c) (a.put oi.dst v) w → Q (.panic c) a w) (hT : ∀ j w w', farApart ops i j = true → T j w w' → Y w → Y w') (hTi : ∀ w, T i w w) :
    ∀ (fuel : Nat) (listed : Array Bool) (a : Act) (w : World),
      (∀ j oj, ops[j]? = some oj → j ≠ i → listed.getD j true = false → (∀ e ∈ oj.after, Region.binds .any e = true → e.on ≠ i) → oi.apart ops oj = true) →
      Closed ops listed → listed.size = ops.size → i ∈ Region.ready .any ops listed → YieldsIf P ops Y oi v a → Y w →
      wpAnyJ P ops Q T fuel (listed.setIfInBounds i true) (a.put oi.dst v) w → wpAnyJ P ops Q T (fuel + 1) listed a w := by
  intro fuel
  induction fuel with
  | zero =>
    intro listed a w _ _ _ hr hy hY H
    refine ⟨fun h => (by rw [h] at hr; cases hr), fun j hj => ?_⟩
    by_cases hji : j = i
    · subst hji; exact hy.wpOp hi hY ⟨hTi w, H⟩
    · have := ready_mono hj hji
      rw [H.1] at this
      cases this
  | succ fuel ih =>
    intro listed a w hfree hcl hsz hr hy hY H
    refine ⟨fun h => (by rw [h] at hr; cases hr), fun j hj => ?_⟩
    by_cases hji : j = i
    · subst hji; exact hy.wpOp hi hY ⟨hTi w, H⟩
    · have h1 := H.2 j (ready_mono hj hji)
      obtain ⟨hjun, oj, hoj, hall⟩ := mem_ready.1 hj
      have hun := far_of_ready hcl hsz (Ne.symm hji) hi hoj hr hj
      have hnot : ∀ e ∈ oj.after, Region.binds .any e = true → e.on ≠ i := fun e he hb heq => by
        have h1 := hall e he hb
        have h0 := (mem_ready.1 hr).1
        rw [heq] at h1
        rcases Nat.lt_or_ge i listed.size with h' | h'
        · simp [h'] at h0 h1; rw [h0] at h1; cases h1
        · simp [Array.getElem?_eq_none h'] at h1
      have h2 := wpOp_putIf hoj (hfree j oj hoj hji hjun hnot) (fun cs b => hsel i oi cs b hi) (fun cs b => hsel j oj cs b hoj) hQ hy h1
      have hfree' : ∀ k ok, ops[k]? = some ok → k ≠ i → (listed.setIfInBounds j true).getD k true = false →
          (∀ e ∈ ok.after, Region.binds .any e = true → e.on ≠ i) → oi.apart ops ok = true := fun k ok hk hki hun hno => by
        refine hfree k ok hk hki ?_ hno
        by_cases hjk : j = k
        · subst hjk; exact hjun
        · rw [getD_set_ne true hjk] at hun; exact hun
      refine wpOp_mono (fun a' w' h3 => ⟨h3.2.1, ih (listed.setIfInBounds j true) a' w' hfree' (closed_next hcl hj) (by simpa using hsz) (ready_mono hr (Ne.symm hji)) h3.1 (hT j w w' hun h3.2.1 hY) ?_⟩) h2
      rw [Array.setIfInBounds_comm _ _ hji]
      exact h3.2.2

end

section
variable {P : Program} {tt : TT} {E : Env} {s : St} {σ : Nat → Nat} {τ : Nat → Value} {a : Act} {w : World} {ops : Array Oper} {Q : Exit → Act → World → Prop}

theorem put_state (h : SR E s σ τ a w) {d : D} {v : Value} (hr : Rep (ctxOf E s.H s.nx σ τ w) d v) {dst : Option Tmp} (hd : ∀ i, dst = some i → i < E.n) : SR E (s.put dst d) σ τ (a.put dst v) w := by
  cases dst with
  | none => exact h
  | some i =>
    have hi := hd i rfl
    refine ⟨h.heap, h.defers, by simp [Act.put, h.size], fun j d' hj => ?_, h.ghost, h.room⟩
    simp only [Act.put]
    by_cases hij : j = i
    · subst hij
      have hj' : lget ((j, d) :: s.F) j = some d' := hj
      rw [lget_same] at hj'
      injection hj' with hj'; subst hj'
      have : (a.tmps.setIfInBounds j v).getD j undef = v := by simp [Array.getD_eq_getD_getElem?, h.size, hi]
      rw [this]; exact hr
    · have hj' : lget ((i, d) :: s.F) j = some d' := hj
      rw [lget_ne _ _ hij] at hj'
      have : (a.tmps.setIfInBounds i v).getD j undef = a.tmps.getD j undef := by simp [Array.getD_eq_getD_getElem?, Ne.symm hij]
      rw [this]; exact h.slots j d' hj'

theorem know_state (h : SR E s σ τ a w) {i : Nat} {b : Bool} (hb : a.tmps.getD i undef = .bool b) : SR E (s.know i b) σ τ a w :=
  ⟨h.heap, h.defers, h.size, (fun j d hj => by
    by_cases hij : j = i
    · subst hij
      have hj' : lget ((j, D.v (.bool b)) :: s.F) j = some d := hj
      rw [lget_same] at hj'
      injection hj' with hj'; subst hj'
      rw [hb]; exact .v
    · have hj' : lget ((i, D.v (.bool b)) :: s.F) j = some d := hj
      rw [lget_ne _ _ hij] at hj'
      exact h.slots j d hj'), h.ghost, h.room⟩

theorem want_run {o : Oper} {X Y : St → Prop} (h : wantD ops.toList s o X Y) (hs : SR E s σ τ a w) :
    ∃ s', SR E s' σ τ a w ∧ ((Region.wanted o (yielded ops a.tmps) = true ∧ X s') ∨ (Region.wanted o (yielded ops a.tmps) = false ∧ Y s')) := by
  unfold wantD at h
  split at h
  · rename_i hg
    exact ⟨s, hs, .inl ⟨by simp [Region.wanted, hg], h⟩⟩
  · rename_i j b hg
    have hop : guardSlot ops.toList j = (ops[j]?).bind (·.dst) := by
      unfold guardSlot
      rw [Array.getElem?_toList]
      cases ops[j]? <;> rfl
    split at h
    · rename_i i hi
      rw [hop] at hi
      have hslot := hs.slot i
      split at h
      · rename_i β hβ
        rw [hβ] at hslot
        have hv := rep_v hslot
        have hy : yielded ops a.tmps j = some β := by
          unfold yielded
          rw [hi]
          simp only [Option.bind_some]
          rw [Array.getD_eq_getD_getElem?] at hv
          cases hq : a.tmps[i]? with
          | none => rw [hq] at hv; cases hv
          | some u => rw [hq] at hv; simp only [Option.getD_some] at hv; rw [hv]
        refine ⟨s.know i β, know_state hs hv, ?_⟩
        have hw : Region.wanted o (yielded ops a.tmps) = (β == b) := by cases β <;> cases b <;> simp [Region.wanted, hg, hy]
        rw [hw]
        cases b <;> cases β <;> first | exact .inl ⟨rfl, h⟩ | exact .inr ⟨rfl, h⟩
      · rename_i vs hvs
        rw [hvs] at hslot
        have hv := rep_v hslot
        refine ⟨s, hs, .inr ⟨?_, h⟩⟩
        have hy : yielded ops a.tmps j = none := by
          unfold yielded
          rw [hi]
          simp only [Option.bind_some]
          rw [Array.getD_eq_getD_getElem?] at hv
          cases hq : a.tmps[i]? with
          | none => rfl
          | some u => rw [hq] at hv; simp only [Option.getD_some] at hv; rw [hv]
        simp [Region.wanted, hg, hy]
      · cases h
    · rename_i hi
      rw [hop] at hi
      refine ⟨s, hs, .inr ⟨?_, h⟩⟩
      have hy : yielded ops a.tmps j = none := by unfold yielded; rw [hi]; rfl
      simp [Region.wanted, hg, hy]

theorem undef_reps {C : Ctx} : Rep C (.v undef) undef := .v

theorem wlist_sound (htt : ttOk P tt) (hb : entersAll P = true) : ∀ (l : List Oper) (s : St) (σ : Nat → Nat) (τ : Nat → Value) (a : Act) (w : World) (K : St → Prop), (∀ o ∈ l, ∀ i, o.dst = some i → i < E.n) → wlist P tt ops.toList l s K → SR E s σ τ a w →
    (∀ s' σ' τ' a' w', K s' → SR E s' σ' τ' a' w' → Q .normal a' w') → wpList P ops Q l a w := by
  intro l
  induction l with
  | nil => intro s σ τ a w K _ h hs hQ; exact hQ _ _ _ _ _ h hs
  | cons o rest ih =>
    intro s σ τ a w K hdst h hs hQ
    have hd0 := hdst o List.mem_cons_self
    have hdr : ∀ o ∈ rest, ∀ i, o.dst = some i → i < E.n := fun o' ho' => hdst o' (List.mem_cons_of_mem _ ho')
    unfold wlist at h
    unfold wpList
    obtain ⟨s1, hs1, h1⟩ := want_run h hs
    rcases h1 with ⟨hw, h1⟩ | ⟨hw, h1⟩
    · rw [if_pos hw]
      left
      split at h1
      · obtain ⟨d, v, h2, h3, h4⟩ := pure_sound htt hs1 o h1
        rw [putK_eq] at h2
        unfold Oper.wp
        rw [h4 w (.inr (Same.refl w))]
        exact ih _ σ τ _ w K hdr h2 (put_state hs1 h3 hd0) hQ
      · refine loudD_sound htt hb h1 E σ τ a w hs1 _ Q fun d s' σ' τ' v w' h2 h3 h4 _ => ?_
        rw [putK_eq] at h2
        exact ih _ σ' τ' _ w' K hdr h2 (put_state h3 h4 hd0) hQ
    · rw [if_neg (by rw [hw]; simp)]
      rw [putK_eq] at h1
      exact ih _ σ τ _ w K hdr h1 (put_state hs1 undef_reps hd0) hQ

/-! ### Orders that are drawn -/
theorem drew_state (h : SR E s σ τ a w) : SR E s σ τ a w.drew := by
  have hle : (ctxOf E s.H s.nx σ τ w).Le (ctxOf E s.H s.nx σ τ w.drew) := ⟨fun b o _ hc => hc, fun b hb => hb, fun _ _ _ h => h, fun _ _ h => h, fun _ _ _ h => h⟩
  refine ⟨⟨⟨h.heap.kept.os, h.heap.kept.tape, h.heap.kept.output, h.heap.kept.size, h.heap.kept.block, Nat.le_succ_of_le h.heap.kept.drawn⟩, h.heap.few, fun id el l hl => ?_, fun id α el e enc L hl => ?_, h.heap.apart, h.heap.below, h.heap.slices, fun id o hl => ⟨(h.heap.obj id o hl).1, OA.at_mono (h.heap.obj id o hl).2 (fun _ _ => rfl) (Nat.le_refl _) hle.still⟩⟩, h.defers, h.size, fun i d hd => (h.slots i d hd).mono hle, h.ghost_le rfl hle, h.room⟩
  · obtain ⟨h1, c, h2, h3, h4⟩ := h.heap.cells id el l hl
    exact ⟨h1, c, h2, h3, fun j d u hd hu => (h4 j d u hd hu).mono hle⟩
  · obtain ⟨h1, xs, h2, h3, h4⟩ := h.heap.grow id α el e enc L hl
    exact ⟨h1, xs, h2, h3, fun i x j d u hx hd hu => (h4 i x j d u hx hd hu).mono hle.still⟩

def isReads (o : Op) : Bool := match howOf o with
  | .reads => true
  | _ => isConv o
def isWrites (o : Op) : Bool := match howOf o with
  | .writes => true
  | _ => false
def lateB (ops : Array Oper) (j : Nat) : Bool := (match ops[j]? with
  | some o => !isPure2 o.op
  | none => false) && (List.range ops.size).all fun i => Nat.beq i j || !farApart ops i j
def turns (ops : Array Oper) (j : Nat) (w w' : World) : Prop := match ops[j]? with
  | some o => (isWrites o.op = true ∨ lateB ops j = true) ∨ Below w.heap.size w w'
  | none => Below w.heap.size w w'
def readsOk (ops : Array Oper) (i : Nat) (o : Oper) : Bool := !isReads o.op || (List.range ops.size).all fun j => match ops[j]? with
  | some oj => !isWrites oj.op || !farApart ops i j
  | none => true
def vplanOk (ops : Array Oper) : List Nat → Array Bool → Bool
  | [], listed => (Region.ready .any ops listed).isEmpty
  | i :: rest, listed => match ops[i]? with
    | none => match ops[i - 5000]? with
      | none => false
      | some _ => (lateB ops (i - 5000) && Region.ready .any ops listed == [i - 5000]) && vplanOk ops rest (listed.setIfInBounds (i - 5000) true)
    | some o => (match isPure2 o.op with
      | true => Region.free .any ops listed i && (Region.ready .any ops listed).contains i && readsOk ops i o
      | false => Region.ready .any ops listed == [i]) && vplanOk ops rest (listed.setIfInBounds i true)

theorem pure_how {o : Op} (h : isPure o = true) : isWrites o = false := by
  unfold isPure at h
  unfold isWrites
  cases hq : howOf o <;> rw [hq] at h <;> simp only at h ⊢
  all_goals first | rfl | (split at h <;> cases h)

theorem pure2_how {o : Op} (h : isPure2 o = true) : isWrites o = false := by
  unfold isPure2 at h
  split at h
  · rename_i hp; exact pure_how hp
  · cases o <;> simp [isConv] at h
    rfl

theorem wplan_sound (htt : ttOk P tt) (hb : entersAll P = true) (hsel : Region.noSelect ops = true) (hQp : ∀ c a w, ¬ Q (.panic c) a w) (hdst : ∀ (i : Nat) o, ops[i]? = some o → ∀ j, o.dst = some j → j < E.n) :
    ∀ (plan : List Nat) (listed : Array Bool) (s : St) (σ : Nat → Nat) (τ : Nat → Value) (a : Act) (w : World) (K : St → Prop), Closed ops listed → listed.size = ops.size → vplanOk ops plan listed = true → wplan P tt ops.toList plan s K → SR E s σ τ a w →
      (∀ s' σ' τ' a' w', K s' → SR E s' σ' τ' a' w' → Q .normal a' w') → wpAnyJ P ops Q (turns ops) plan.length listed a w := by
  intro plan
  induction plan with
  | nil =>
    intro listed s σ τ a w K _ _ hp h hs hQ
    simp only [vplanOk, List.isEmpty_iff] at hp
    exact ⟨hp, hQ _ _ _ _ _ h hs⟩
  | cons i rest ih =>
    intro listed s σ τ a w K hcl hsz hp h hs hQ
    unfold vplanOk at hp
    unfold wplan at h
    obtain ⟨i5, hi5⟩ : ∃ k, i - 5000 = k := ⟨_, rfl⟩
    rw [hi5] at h hp
    rw [Array.getElem?_toList] at h
    cases ho : ops[i]? with
    | none =>
      rw [ho] at h hp
      simp only at h hp
      rw [Array.getElem?_toList] at h
      cases ho2 : ops[i5]? with
      | none => rw [ho2] at h; cases h
      | some o =>
        rw [ho2] at h hp
        simp only [Bool.and_eq_true, beq_iff_eq] at h hp
        obtain ⟨⟨hlate, hp1⟩, hp2⟩ := hp
        have hd0 := hdst i5 o ho2
        obtain ⟨s1, hs1, h1⟩ := want_run h hs
        have hturn : ∀ w1 w2, turns ops i5 w1 w2 := fun w1 w2 => by
          unfold turns
          rw [ho2]
          exact .inl (.inr hlate)
        refine ⟨fun h0 => (by rw [hp1] at h0; cases h0), fun j hj => ?_⟩
        rw [hp1] at hj
        have hji : j = i5 := by simpa using hj
        rw [hji]
        have hcl2 : Closed ops (listed.setIfInBounds i5 true) := closed_next hcl (by rw [hp1]; simp)
        have hsz2 : (listed.setIfInBounds i5 true).size = ops.size := by simpa using hsz
        unfold wpOp
        simp only [ho2]
        rcases h1 with ⟨hw, h1⟩ | ⟨hw, h1⟩
        · rw [if_pos hw]
          left
          refine loudD_sound htt hb h1 E σ τ a w hs1 _ Q fun d s' σ' τ' v w' h2 h3 h4 _ => ?_
          rw [putK_eq] at h2
          exact ⟨hturn _ _, ih _ _ _ _ _ _ _ hcl2 hsz2 hp2 h2 (put_state h3 h4 hd0) hQ⟩
        · rw [if_neg (by rw [hw]; simp)]
          rw [putK_eq] at h1
          exact ⟨hturn _ _, ih _ _ _ _ _ _ _ hcl2 hsz2 hp2 h1 (put_state hs1 undef_reps hd0) hQ⟩
    | some o =>
      rw [ho] at h hp
      simp only [Bool.and_eq_true] at h hp
      obtain ⟨hp1, hp2⟩ := hp
      have hd0 := hdst i o ho
      obtain ⟨s1, hs1, h1⟩ := want_run h hs
      cases hpure : isPure2 o.op with
      | true =>
        rw [hpure] at hp1 h1
        simp only [Bool.and_eq_true] at hp1 h1
        obtain ⟨⟨hfree, hcon⟩, hread⟩ := hp1
        have hnw := pure2_how hpure
        have take : ∀ (v : Value) (s2 : St) (Y : World → Prop), YieldsIf P ops Y o v a → Y w → (∀ j w w', farApart ops i j = true → turns ops j w w' → Y w → Y w') → wplan P tt ops.toList rest s2 K → SR E s2 σ τ (a.put o.dst v) w →
            wpAnyJ P ops Q (turns ops) (rest.length + 1) listed a w := fun v s2 Y hy hY hT hk hs2 =>
          wpAnyJ_first ho (Region.noSelect_spec hsel) (fun c a' w' hq => absurd hq (hQp _ _ _)) hT (fun w' => by unfold turns; rw [ho]; exact .inr (Below.refl _ _)) rest.length listed a w (Region.free_spec ho hfree) hcl hsz (by simpa using hcon) hy hY (ih _ _ _ _ _ _ _ (closed_next hcl (by simpa using hcon)) (by simpa using hsz) hp2 hk hs2 hQ)
        rcases h1 with ⟨hw, h1⟩ | ⟨hw, h1⟩
        · obtain ⟨d, v, h2, h3, h4⟩ := pure_sound htt hs1 o h1
          rw [putK_eq] at h2
          refine take v _ (fun w' => howOf o.op = .still ∨ Below w.heap.size w w') (.inl ⟨hw, fun w' hw' => h4 w' (hw'.imp id Same.of_below)⟩) (.inr (Below.refl _ _)) (fun j w1 w2 hun ht hY => ?_) h2 (put_state hs1 h3 hd0)
          rcases hY with hY | hY
          · exact .inl hY
          · cases hh : howOf o.op with
            | still => exact .inl rfl
            | writes => unfold isWrites at hnw; rw [hh] at hnw; cases hnw
            | _ =>
              right
              have hr : isReads o.op = true := by
                first
                  | (unfold isReads; rw [hh]; done)
                  | (unfold isReads
                     rw [hh]
                     unfold isPure2 at hpure
                     split at hpure
                     · rename_i hp
                       unfold isPure at hp
                       rw [hh] at hp
                       simp only at hp
                       split at hp <;> cases hp
                     · exact hpure)
              have hno : turns ops j w1 w2 → Below w1.heap.size w1 w2 := by
                intro ht
                unfold turns at ht
                cases hoj : ops[j]? with
                | none => rw [hoj] at ht; exact ht
                | some oj =>
                  rw [hoj] at ht
                  simp only at ht
                  rcases ht with (ht | ht) | ht
                  · exfalso
                    unfold readsOk at hread
                    rw [hr] at hread
                    simp only [Bool.not_true, Bool.false_or] at hread
                    have hj : j < ops.size := (Array.getElem?_eq_some_iff.1 hoj).1
                    have := List.all_eq_true.1 hread j (List.mem_range.2 hj)
                    rw [hoj] at this
                    simp only [ht, hun, Bool.not_true, Bool.or_self] at this
                    cases this
                  · exfalso
                    unfold lateB at ht
                    rw [hoj] at ht
                    simp only [Bool.and_eq_true] at ht
                    have := List.all_eq_true.1 ht.2 i (List.mem_range.2 (Array.getElem?_eq_some_iff.1 ho).1)
                    rw [hun, Bool.not_true, Bool.or_false] at this
                    have := Nat.eq_of_beq_eq_true this
                    subst this
                    rw [ho] at hoj
                    injection hoj with hoj
                    subst hoj
                    rw [hpure] at ht
                    cases ht.1
                  · exact ht
              have hb2 := hno ht
              exact hY.trans (hb2.mono hY.size)
        · rw [putK_eq] at h1
          exact take undef _ (fun _ => True) (.inr ⟨hw, rfl⟩) trivial (fun _ _ _ _ _ _ => trivial) h1 (put_state hs1 undef_reps hd0)
      | false =>
        rw [hpure] at hp1 h1
        simp only [beq_iff_eq] at hp1
        refine ⟨fun h0 => (by rw [hp1] at h0; cases h0), fun j hj => ?_⟩
        rw [hp1] at hj
        obtain rfl : j = i := by simpa using hj
        have hcl2 : Closed ops (listed.setIfInBounds j true) := closed_next hcl (by rw [hp1]; simp)
        have hsz2 : (listed.setIfInBounds j true).size = ops.size := by simpa using hsz
        unfold wpOp
        simp only [ho]
        rcases h1 with ⟨hw, h1⟩ | ⟨hw, h1⟩
        · rw [if_pos hw]
          left
          simp only at h1
          refine loudD_sound htt hb h1 E σ τ a w hs1 _ Q fun d s' σ' τ' v w' h2 h3 h4 h5 => ?_
          rw [putK_eq] at h2
          refine ⟨?_, ih _ _ _ _ _ _ _ hcl2 hsz2 hp2 h2 (put_state h3 h4 hd0) hQ⟩
          unfold turns
          rw [ho]
          simp only
          unfold isWrites
          cases hh : howOf o.op with
          | writes => exact .inl (.inl rfl)
          | still => rw [hh] at h5; exact .inr (h5 rfl)
          | reads => rw [hh] at h5; exact .inr (h5 rfl)
          | makes => rw [hh] at h5; exact .inr (h5 rfl)
        · rw [if_neg (by rw [hw]; simp)]
          rw [putK_eq] at h1
          refine ⟨?_, ih _ _ _ _ _ _ _ hcl2 hsz2 hp2 h1 (put_state hs1 undef_reps hd0) hQ⟩
          unfold turns
          rw [ho]
          exact .inr (Below.refl _ _)

def openOk (ops : Array Oper) : Nat → Array Bool → List Nat → Bool
  | 0, listed, done => match readyL done ops.toList 0 with
    | [] => (Region.ready .any ops listed).isEmpty
    | _ :: _ => false
  | n + 1, listed, done => match readyL done ops.toList 0 with
    | [] => (Region.ready .any ops listed).isEmpty
    | i :: r => match pickS ops.toList (i :: r) with
      | some j => Region.free .any ops listed j && (Region.ready .any ops listed).contains j && openOk ops n (listed.setIfInBounds j true) (j :: done)
      | none => (Region.ready .any ops listed).all (fun j => (i :: r).contains j) && (i :: r).all fun j => (Region.ready .any ops listed).contains j && openOk ops n (listed.setIfInBounds j true) (j :: done)

theorem pickS_still {ops : List Oper} : ∀ {l : List Nat} {j : Nat}, pickS ops l = some j → ∃ o, ops[j]? = some o ∧ isStill o.op = true
  | [], _, h => by cases h
  | i :: r, j, h => by
    unfold pickS at h
    split at h
    · rename_i o ho
      split at h
      · rename_i hs
        injection h with h; subst h
        exact ⟨o, ho, hs⟩
      · exact pickS_still h
    · exact pickS_still h
theorem wallL_at {f : Nat → Prop} : ∀ {l : List Nat} {j : Nat}, wallL l f → j ∈ l → f j
  | i :: r, j, h, hj => by
    rcases List.mem_cons.1 hj with rfl | hj
    · exact h.1
    · exact wallL_at h.2 hj

theorem wopen_sound (htt : ttOk P tt) (hb : entersAll P = true) (hsel : Region.noSelect ops = true) (hQp : ∀ c a w, ¬ Q (.panic c) a w) (hdst : ∀ (i : Nat) o, ops[i]? = some o → ∀ j, o.dst = some j → j < E.n) :
    ∀ (n : Nat) (listed : Array Bool) (done : List Nat) (s : St) (σ : Nat → Nat) (τ : Nat → Value) (a : Act) (w : World) (K : St → Prop), Closed ops listed → listed.size = ops.size → openOk ops n listed done = true → wopen P tt ops.toList n done s K → SR E s σ τ a w →
      (∀ s' σ' τ' a' w', K s' → SR E s' σ' τ' a' w' → Q .normal a' w') → wpAnyJ P ops Q (fun _ _ _ => True) n listed a w := by
  intro n
  induction n with
  | zero =>
    intro listed done s σ τ a w K _ _ hp h hs hQ
    unfold openOk at hp
    unfold wopen at h
    split at hp
    · rename_i hr
      rw [hr] at h
      simp only [List.isEmpty_iff] at hp
      exact ⟨hp, hQ _ _ _ _ _ h hs⟩
    · cases hp
  | succ n ih =>
    intro listed done s σ τ a w K hcl hsz hp h hs hQ
    unfold openOk at hp
    unfold wopen at h
    split at hp
    · rename_i hr
      rw [hr] at h
      simp only [List.isEmpty_iff] at hp
      exact ⟨fun _ => hQ _ _ _ _ _ h hs, fun i hi => by rw [hp] at hi; cases hi⟩
    · rename_i i0 r0 hr
      rw [hr] at h
      simp only at h
      split at hp
      · rename_i i hpick
        rw [hpick] at h
        simp only [Bool.and_eq_true] at hp
        obtain ⟨⟨hfree, hcon⟩, hp2⟩ := hp
        obtain ⟨o, ho', hstill⟩ := pickS_still hpick
        have ho : ops[i]? = some o := by rwa [Array.getElem?_toList] at ho'
        simp only at h
        unfold wone at h
        rw [ho'] at h
        simp only at h
        have hhow : howOf o.op = .still := by unfold isStill at hstill; cases hh : howOf o.op <;> rw [hh] at hstill <;> first | rfl | cases hstill
        have hpure : isPure o.op = true := by unfold isPure; rw [hhow]
        have hd0 := hdst i o ho
        obtain ⟨s1, hs1, h1⟩ := want_run h hs
        have take : ∀ (v : Value) (s2 : St) (Y : World → Prop), YieldsIf P ops Y o v a → (∀ w, Y w) → wopen P tt ops.toList n (i :: done) s2 K → SR E s2 σ τ (a.put o.dst v) w →
            wpAnyJ P ops Q (fun _ _ _ => True) (n + 1) listed a w := fun v s2 Y hy hY hk hs2 =>
          wpAnyJ_first ho (Region.noSelect_spec hsel) (fun c a' w' hq => absurd hq (hQp _ _ _)) (fun _ _ _ _ _ _ => hY _) (fun _ => trivial) n listed a w (Region.free_spec ho hfree) hcl hsz (by simpa using hcon) hy (hY w) (ih _ _ _ _ _ _ _ _ (closed_next hcl (by simpa using hcon)) (by simpa using hsz) hp2 hk hs2 hQ)
        rcases h1 with ⟨hw, h1⟩ | ⟨hw, h1⟩
        · rw [hpure] at h1
          obtain ⟨d, v, h2, h3, h4⟩ := pure_sound htt hs1 o h1
          rw [putK_eq] at h2
          exact take v _ (fun _ => True) (.inl ⟨hw, fun w' _ => h4 w' (.inl hhow)⟩) (fun _ => trivial) h2 (put_state hs1 h3 hd0)
        · rw [putK_eq] at h1
          exact take undef _ (fun _ => True) (.inr ⟨hw, rfl⟩) (fun _ => trivial) h1 (put_state hs1 undef_reps hd0)
      · rename_i hpick
        rw [hpick] at h
        simp only at h
        simp only [Bool.and_eq_true, List.all_eq_true] at hp
        obtain ⟨hall, hp2⟩ := hp
        refine ⟨fun h0 => ?_, fun i hi => ?_⟩
        · have h5 := (hp2 i0 List.mem_cons_self).1
          rw [h0] at h5
          simp at h5
        · have hin : i ∈ i0 :: r0 := by simpa using hall i hi
          have h := wallL_at h hin
          have hp3 := (hp2 i hin).2
          unfold wone at h
          have hcl2 : Closed ops (listed.setIfInBounds i true) := closed_next hcl hi
          have hsz2 : (listed.setIfInBounds i true).size = ops.size := by simpa using hsz
          cases ho : ops[i]? with
          | none =>
            rw [Array.getElem?_toList, ho] at h
            exact h.elim
          | some o =>
            rw [Array.getElem?_toList, ho] at h
            simp only at h
            have hd0 := hdst i o ho
            obtain ⟨s1, hs1, h1⟩ := want_run h hs
            unfold wpOp
            simp only [ho]
            rcases h1 with ⟨hw, h1⟩ | ⟨hw, h1⟩
            · rw [if_pos hw]
              left
              split at h1
              · obtain ⟨d, v, h2, h3, h4⟩ := pure_sound htt hs1 o h1
                rw [putK_eq] at h2
                unfold Oper.wp
                rw [h4 w (.inr (Same.refl w))]
                exact ⟨trivial, ih _ _ _ σ τ _ w K hcl2 hsz2 hp3 h2 (put_state hs1 h3 hd0) hQ⟩
              · refine loudD_sound htt hb h1 E σ τ a w hs1 _ Q fun d s' σ' τ' v w' h2 h3 h4 _ => ?_
                rw [putK_eq] at h2
                exact ⟨trivial, ih _ _ _ σ' τ' _ w' K hcl2 hsz2 hp3 h2 (put_state h3 h4 hd0) hQ⟩
            · rw [if_neg (by rw [hw]; simp)]
              rw [putK_eq] at h1
              exact ⟨trivial, ih _ _ _ σ τ _ w K hcl2 hsz2 hp3 h1 (put_state hs1 undef_reps hd0) hQ⟩

def freeR (ops : Array Oper) (ok : List Nat) (j : Nat) : Bool := (List.range ops.size).all fun i => match ops[i]? with
  | some o => !isReads o.op || !farApart ops i j || !hasN ok i
  | none => true
def freeAll (ops : Array Oper) (ok : List Nat) : Bool := (List.range ops.size).all fun j => !hasN ok (7000 + j) || freeR ops ok j
def turnsR (ops : Array Oper) (ok : List Nat) (j : Nat) (w w' : World) : Prop := match ops[j]? with
  | some o => (isWrites o.op = true ∨ hasN ok (7000 + j) = true) ∨ Below w.heap.size w w'
  | none => Below w.heap.size w w'
def openOkR (ops : Array Oper) (ok : List Nat) : Nat → Array Bool → List Nat → Bool
  | 0, listed, done => match readyL done ops.toList 0 with
    | [] => (Region.ready .any ops listed).isEmpty
    | _ :: _ => false
  | n + 1, listed, done => match readyL done ops.toList 0 with
    | [] => (Region.ready .any ops listed).isEmpty
    | i :: r => match pickL ok (i :: r) with
      | some j => (match ops[j]? with
        | none => false
        | some o => isPure2 o.op && readsOk ops j o) && Region.free .any ops listed j && (Region.ready .any ops listed).contains j && openOkR ops ok n (listed.setIfInBounds j true) (j :: done)
      | none => (Region.ready .any ops listed).all (fun j => (i :: r).contains j) && (i :: r).all fun j => (Region.ready .any ops listed).contains j && openOkR ops ok n (listed.setIfInBounds j true) (j :: done)

theorem pickL_has {ok : List Nat} : ∀ {l : List Nat} {i : Nat}, pickL ok l = some i → hasN ok i = true
  | [], i, h => by cases h
  | j :: r, i, h => by
    unfold pickL at h
    split at h
    · rename_i hj
      injection h with h
      subst h
      exact hj
    · exact pickL_has h
theorem wopenR_sound (htt : ttOk P tt) (hb : entersAll P = true) (hsel : Region.noSelect ops = true) (hQp : ∀ c a w, ¬ Q (.panic c) a w) (hdst : ∀ (i : Nat) o, ops[i]? = some o → ∀ j, o.dst = some j → j < E.n) (ok : List Nat) (hfa : freeAll ops ok = true) :
    ∀ (n : Nat) (listed : Array Bool) (done : List Nat) (s : St) (σ : Nat → Nat) (τ : Nat → Value) (a : Act) (w : World) (K : St → Prop), Closed ops listed → listed.size = ops.size → openOkR ops ok n listed done = true → wopenR P tt ops.toList ok n done s K → SR E s σ τ a w →
      (∀ s' σ' τ' a' w', K s' → SR E s' σ' τ' a' w' → Q .normal a' w') → wpAnyJ P ops Q (turnsR ops ok) n listed a w := by
  intro n
  induction n with
  | zero =>
    intro listed done s σ τ a w K _ _ hp h hs hQ
    unfold openOkR at hp
    unfold wopenR at h
    split at hp
    · rename_i hr
      rw [hr] at h
      simp only [List.isEmpty_iff] at hp
      exact ⟨hp, hQ _ _ _ _ _ h hs⟩
    · cases hp
  | succ n ih =>
    intro listed done s σ τ a w K hcl hsz hp h hs hQ
    unfold openOkR at hp
    unfold wopenR at h
    split at hp
    · rename_i hr
      rw [hr] at h
      simp only [List.isEmpty_iff] at hp
      exact ⟨fun _ => hQ _ _ _ _ _ h hs, fun i hi => by rw [hp] at hi; cases hi⟩
    · rename_i i0 r0 hr
      rw [hr] at h
      simp only at h
      split at hp
      · rename_i i hpick
        rw [hpick] at h
        simp only [Bool.and_eq_true] at hp
        obtain ⟨⟨⟨hpr, hfree⟩, hcon⟩, hp2⟩ := hp
        cases ho : ops[i]? with
        | none => rw [ho] at hpr; cases hpr
        | some o =>
        rw [ho] at hpr
        simp only [Bool.and_eq_true] at hpr
        obtain ⟨hpure, hread⟩ := hpr
        have hnw := pure2_how hpure
        simp only at h
        unfold woneR at h
        rw [Array.getElem?_toList, ho] at h
        simp only at h
        have hd0 := hdst i o ho
        obtain ⟨s1, hs1, h1⟩ := want_run h hs
        have take : ∀ (v : Value) (s2 : St) (Y : World → Prop), YieldsIf P ops Y o v a → Y w → (∀ j w w', farApart ops i j = true → turnsR ops ok j w w' → Y w → Y w') → wopenR P tt ops.toList ok n (i :: done) s2 K → SR E s2 σ τ (a.put o.dst v) w →
            wpAnyJ P ops Q (turnsR ops ok) (n + 1) listed a w := fun v s2 Y hy hY hT hk hs2 =>
          wpAnyJ_first ho (Region.noSelect_spec hsel) (fun c a' w' hq => absurd hq (hQp _ _ _)) hT (fun w' => by unfold turnsR; rw [ho]; exact .inr (Below.refl _ _)) n listed a w (Region.free_spec ho hfree) hcl hsz (by simpa using hcon) hy hY (ih _ _ _ _ _ _ _ _ (closed_next hcl (by simpa using hcon)) (by simpa using hsz) hp2 hk hs2 hQ)
        rcases h1 with ⟨hw, h1⟩ | ⟨hw, h1⟩
        · rw [hpure] at h1
          obtain ⟨d, v, h2, h3, h4⟩ := pure_sound htt hs1 o h1
          rw [putK_eq] at h2
          refine take v _ (fun w' => howOf o.op = .still ∨ Below w.heap.size w w') (.inl ⟨hw, fun w' hw' => h4 w' (hw'.imp id Same.of_below)⟩) (.inr (Below.refl _ _)) (fun j w1 w2 hun ht hY => ?_) h2 (put_state hs1 h3 hd0)
          rcases hY with hY | hY
          · exact .inl hY
          · cases hh : howOf o.op with
            | still => exact .inl rfl
            | writes => unfold isWrites at hnw; rw [hh] at hnw; cases hnw
            | _ =>
              right
              have hr : isReads o.op = true := by
                first
                  | (unfold isReads; rw [hh]; done)
                  | (unfold isReads
                     rw [hh]
                     unfold isPure2 at hpure
                     split at hpure
                     · rename_i hp
                       unfold isPure at hp
                       rw [hh] at hp
                       simp only at hp
                       split at hp <;> cases hp
                     · exact hpure)
              have hno : turnsR ops ok j w1 w2 → Below w1.heap.size w1 w2 := by
                intro ht
                unfold turnsR at ht
                cases hoj : ops[j]? with
                | none => rw [hoj] at ht; exact ht
                | some oj =>
                  rw [hoj] at ht
                  simp only at ht
                  rcases ht with (ht | ht) | ht
                  · exfalso
                    unfold readsOk at hread
                    rw [hr] at hread
                    simp only [Bool.not_true, Bool.false_or] at hread
                    have hj : j < ops.size := (Array.getElem?_eq_some_iff.1 hoj).1
                    have := List.all_eq_true.1 hread j (List.mem_range.2 hj)
                    rw [hoj] at this
                    simp only [ht, hun, Bool.not_true, Bool.or_self] at this
                    cases this
                  · exfalso
                    have hj : j < ops.size := (Array.getElem?_eq_some_iff.1 hoj).1
                    have h7 := List.all_eq_true.1 hfa j (List.mem_range.2 hj)
                    rw [ht, Bool.not_true, Bool.false_or] at h7
                    have h8 := List.all_eq_true.1 h7 i (List.mem_range.2 (Array.getElem?_eq_some_iff.1 ho).1)
                    rw [ho] at h8
                    simp only [hr, hun, pickL_has hpick, Bool.not_true, Bool.or_self] at h8
                    cases h8
                  · exact ht
              have hb2 := hno ht
              exact hY.trans (hb2.mono hY.size)
        · rw [putK_eq] at h1
          exact take undef _ (fun _ => True) (.inr ⟨hw, rfl⟩) trivial (fun _ _ _ _ _ _ => trivial) h1 (put_state hs1 undef_reps hd0)
      · rename_i hpick
        rw [hpick] at h
        simp only at h
        simp only [Bool.and_eq_true, List.all_eq_true] at hp
        obtain ⟨hall, hp2⟩ := hp
        refine ⟨fun h0 => ?_, fun i hi => ?_⟩
        · have h5 := (hp2 i0 List.mem_cons_self).1
          rw [h0] at h5
          simp at h5
        · have hin : i ∈ i0 :: r0 := by simpa using hall i hi
          have h := wallL_at h hin
          have hp3 := (hp2 i hin).2
          unfold woneR at h
          have hcl2 : Closed ops (listed.setIfInBounds i true) := closed_next hcl hi
          have hsz2 : (listed.setIfInBounds i true).size = ops.size := by simpa using hsz
          cases ho : ops[i]? with
          | none =>
            rw [Array.getElem?_toList, ho] at h
            exact h.elim
          | some o =>
            rw [Array.getElem?_toList, ho] at h
            simp only at h
            have hd0 := hdst i o ho
            obtain ⟨s1, hs1, h1⟩ := want_run h hs
            unfold wpOp
            simp only [ho]
            have hbel : turnsR ops ok i w w := by unfold turnsR; rw [ho]; exact .inr (Below.refl _ _)
            rcases h1 with ⟨hw, h1⟩ | ⟨hw, h1⟩
            · rw [if_pos hw]
              left
              split at h1
              · obtain ⟨d, v, h2, h3, h4⟩ := pure_sound htt hs1 o h1
                rw [putK_eq] at h2
                unfold Oper.wp
                rw [h4 w (.inr (Same.refl w))]
                exact ⟨hbel, ih _ _ _ σ τ _ w K hcl2 hsz2 hp3 h2 (put_state hs1 h3 hd0) hQ⟩
              · refine loudD_sound htt hb h1 E σ τ a w hs1 _ Q fun d s' σ' τ' v w' h2 h3 h4 h5 => ?_
                rw [putK_eq] at h2
                refine ⟨?_, ih _ _ _ σ' τ' _ w' K hcl2 hsz2 hp3 h2 (put_state h3 h4 hd0) hQ⟩
                unfold turnsR
                rw [ho]
                simp only
                unfold isWrites
                cases hh : howOf o.op with
                | writes => exact .inl (.inl rfl)
                | _ =>
                  rw [hh] at h5
                  simp only at h5
                  cases h7 : hasN ok (7000 + i) with
                  | true => exact .inl (.inr rfl)
                  | false => rw [h7] at h5; exact .inr (h5 rfl)
            · rw [if_neg (by rw [hw]; simp)]
              rw [putK_eq] at h1
              exact ⟨hbel, ih _ _ _ σ τ _ w K hcl2 hsz2 hp3 h1 (put_state hs1 undef_reps hd0) hQ⟩
end
end Go.Proofs.Ytfghccppoilfhaa.V
