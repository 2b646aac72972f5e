/-
  The same, part 11: regions that draw their order: what has come up, what is apart, and memory made before its turn. No condition.
-/
import Derived.Test.YtfbphlakbhmpeaaCeJ
namespace Go.Proofs.Ytfbphlakbhmpeaa
open Go.RowKit

/-! ### What has come up -/

theorem setAll_set : ∀ (l : List Nat) (D : Array Bool) (i : Nat), setAll (D.setIfInBounds i true) l = (setAll D l).setIfInBounds i true := by
  intro l
  induction l with
  | nil => intro D i; rfl
  | cons j l ih =>
    intro D i
    show setAll ((D.setIfInBounds i true).setIfInBounds j true) l = (setAll (D.setIfInBounds j true) l).setIfInBounds i true
    by_cases h : i = j
    · subst h; exact ih _ _
    · rw [Array.setIfInBounds_comm _ _ h, ih]

theorem setAll_cons (D : Array Bool) (i : Nat) (l : List Nat) : setAll D (i :: l) = (setAll D l).setIfInBounds i true := setAll_set l D i

theorem setAll_mid (D : Array Bool) (i : Nat) : ∀ (l k : List Nat), setAll D (l ++ i :: k) = setAll (D.setIfInBounds i true) (l ++ k)
  | [], k => rfl
  | j :: l, k => by
    rw [List.cons_append, List.cons_append, setAll_cons, setAll_cons, setAll_mid D i l k]

theorem getD_false {A : Array Bool} {j : Nat} (h : A.getD j true = false) : j < A.size ∧ A.getD j false = false := by
  rcases Nat.lt_or_ge j A.size with h' | h'
  · refine ⟨h', ?_⟩
    simp only [Array.getD_eq_getD_getElem?, Array.getElem?_eq_getElem h', Option.getD_some] at h ⊢
    exact h
  · simp [Array.getElem?_eq_none h'] at h

theorem getD_true {A : Array Bool} {j : Nat} (h : A.getD j false = true) : j < A.size ∧ A.getD j true = true := by
  rcases Nat.lt_or_ge j A.size with h' | h'
  · refine ⟨h', ?_⟩
    simp only [Array.getD_eq_getD_getElem?, Array.getElem?_eq_getElem h', Option.getD_some] at h ⊢
    exact h
  · simp [Array.getElem?_eq_none h'] at h

theorem setAll_not {j : Nat} (x : Bool) : ∀ (l : List Nat) (D : Array Bool), j ∉ l → (setAll D l).getD j x = D.getD j x
  | [], _, _ => rfl
  | i :: l, D, h => by
    rw [setAll_cons, getD_set_ne x (fun e => h (by simp [e]))]
    exact setAll_not x l D fun e => h (by simp [e])

theorem setAll_true {j : Nat} : ∀ (l : List Nat) (D : Array Bool), D.getD j false = true → (setAll D l).getD j false = true
  | [], _, h => h
  | i :: l, D, h => by rw [setAll_cons]; exact getD_set_true (setAll_true l D h)

theorem setAll_size : ∀ (l : List Nat) (D : Array Bool), (setAll D l).size = D.size
  | [], _ => rfl
  | i :: l, D => by rw [setAll_cons]; simp [setAll_size l D]

theorem setAll_mem {j : Nat} : ∀ (l : List Nat) (D : Array Bool), j ∈ l → j < D.size → (setAll D l).getD j false = true
  | [], _, h, _ => by cases h
  | i :: l, D, h, hs => by
    rw [setAll_cons]
    by_cases hij : i = j
    · subst hij
      have : i < (setAll D l).size := by rw [setAll_size]; exact hs
      simp [this]
    · rw [getD_set_ne false hij]
      rcases List.mem_cons.1 h with h | h
      · exact absurd h.symm hij
      · exact setAll_mem l D h hs

theorem setAll_un {j : Nat} {l : List Nat} {D : Array Bool} (h : (setAll D l).getD j true = false) : j ∉ l ∧ D.getD j true = false := by
  obtain ⟨h1, h2⟩ := getD_false h
  have hn : j ∉ l := fun hm => by
    rw [setAll_size] at h1
    rw [setAll_mem l D hm h1] at h2; cases h2
  exact ⟨hn, by rw [← setAll_not true l D hn]; exact h⟩

section
variable {ops : Array Oper}

theorem ready_setAll {D : Array Bool} {A B : List Nat} {r : Nat} (h : r ∈ Region.ready .any ops (setAll D A)) (hAB : ∀ x ∈ A, x ∈ B) (hr : r ∉ B) : r ∈ Region.ready .any ops (setAll D B) := by
  rw [mem_ready] at h ⊢
  obtain ⟨h1, o, ho, hall⟩ := h
  refine ⟨?_, o, ho, fun e he hb => ?_⟩
  · rw [setAll_not true B D hr]
    exact (setAll_un h1).2
  · have h2 := hall e he hb
    by_cases hm : e.on ∈ B
    · have := (getD_true h2).1
      rw [setAll_size] at this
      exact setAll_mem B D hm this
    · rw [setAll_not false B D hm]
      rw [setAll_not false A D (fun hh => hm (hAB _ hh))] at h2
      exact h2

/-- It waits for it. -/
def Waits (o : Oper) (i : Nat) : Prop := ∃ e ∈ o.after, Region.binds .any e = true ∧ e.on = i

theorem waits_of {o : Oper} {i : Nat} (h : (o.after.any fun e => Region.binds .any e && e.on == i) = true) : Waits o i := by
  obtain ⟨e, he, hb⟩ := Array.any_eq_true'.1 h
  simp only [Bool.and_eq_true, beq_iff_eq] at hb
  exact ⟨e, he, hb.1, hb.2⟩

theorem okD_cons {i : Nat} {k : Kind} {r : DPlan} {D : Array Bool} (h : okD ops ((i, k) :: r) D = true) : ∃ oi, ops[i]? = some oi ∧ i ∈ Region.ready .any ops D ∧
    (∀ q ∈ freshOf r, ∃ oq, ops[q]? = some oq ∧ clear1 ops oq oi = true ∧ (clear2 ops oq oi = true ∨ Waits oq i)) ∧
    (k = .free → Region.free .any ops D i = true) ∧ (k = .fresh → freshOp oi = true ∧ clear2 ops oi oi = true) ∧
    (k ≠ .free → ∀ r' ∈ Region.ready .any ops (setAll D (freshOf r)), r' = i) ∧ okD ops r (D.setIfInBounds i true) = true := by
  unfold okD at h
  split at h
  · cases h
  · rename_i oi hi
    simp only [Bool.and_eq_true] at h
    obtain ⟨⟨⟨h1, h2⟩, h3⟩, h4⟩ := h
    refine ⟨oi, hi, by simpa using h1, fun q hq => ?_, ?_, ?_, ?_, h4⟩
    · have := List.all_eq_true.1 h2 q hq
      split at this
      · rename_i oq hoq
        simp only [Bool.and_eq_true, Bool.or_eq_true] at this
        exact ⟨oq, hoq, this.1, this.2.imp id waits_of⟩
      · cases this
    · rintro rfl; exact h3
    · rintro rfl; simp only [Bool.and_eq_true] at h3; exact h3.1
    · intro hk r' hr'
      cases k with
      | free => exact absurd rfl hk
      | strict => simpa using List.all_eq_true.1 h3 r' hr'
      | fresh => simp only [Bool.and_eq_true] at h3; simpa using List.all_eq_true.1 h3.2 r' hr'

theorem clear1_spec {x y : Oper} {d : Tmp} (h : clear1 ops x y = true) (hd : x.dst = some d) : d ∉ y.looksAt ops ∧ y.dst ≠ some d := by
  unfold clear1 at h
  rw [hd] at h
  simpa using h
theorem clear2_spec {x y : Oper} {d : Tmp} (h : clear2 ops x y = true) (hd : y.dst = some d) : d ∉ x.looksAt ops := by
  unfold clear2 at h
  rw [hd] at h
  simpa using h

theorem okD_fresh : ∀ (plan : DPlan) (D : Array Bool), okD ops plan D = true → ∀ q ∈ freshOf plan, ∃ oq, ops[q]? = some oq ∧ freshOp oq = true ∧ clear2 ops oq oq = true
  | [], _, _, _, h => by cases h
  | (i, k) :: r, D, h, q, hq => by
    obtain ⟨oi, hi, _, _, _, h5, _, h7⟩ := okD_cons h
    cases k with
    | fresh =>
      rcases List.mem_cons.1 (show q ∈ i :: freshOf r from hq) with rfl | hq
      · exact ⟨oi, hi, (h5 rfl).1, (h5 rfl).2⟩
      · exact okD_fresh r _ h7 q hq
    | free => exact okD_fresh r _ h7 q hq
    | strict => exact okD_fresh r _ h7 q hq

/-- Two of those that make memory. -/
theorem okD_pair : ∀ (plan : DPlan) (D : Array Bool), okD ops plan D = true → ∀ x ∈ freshOf plan, ∀ y ∈ freshOf plan, x ≠ y → ∀ ox oy, ops[x]? = some ox → ops[y]? = some oy →
    (∀ d, oy.dst = some d → d ∉ ox.looksAt ops ∨ Waits ox y) ∧ ∀ d, ox.dst = some d → oy.dst ≠ some d
  | [], _, _, _, h, _, _, _, _, _, _, _ => by cases h
  | (i, k) :: r, D, h, x, hx, y, hy, hne, ox, oy, hox, hoy => by
    obtain ⟨oi, hi, _, h3, _, h5, _, h7⟩ := okD_cons h
    cases k with
    | free => exact okD_pair r _ h7 x hx y hy hne ox oy hox hoy
    | strict => exact okD_pair r _ h7 x hx y hy hne ox oy hox hoy
    | fresh =>
      rcases List.mem_cons.1 (show x ∈ i :: freshOf r from hx) with rfl | hx'
      · rcases List.mem_cons.1 (show y ∈ x :: freshOf r from hy) with rfl | hy'
        · exact absurd rfl hne
        · obtain ⟨o, ho, h1, _⟩ := h3 y hy'
          rw [hoy] at ho; injection ho with ho; subst ho
          rw [hox] at hi; injection hi with hi; subst hi
          exact ⟨fun d hd => .inl (clear1_spec h1 hd).1, fun d hd he => (clear1_spec h1 he).2 hd⟩
      · rcases List.mem_cons.1 (show y ∈ i :: freshOf r from hy) with rfl | hy'
        · obtain ⟨o, ho, h1, h2⟩ := h3 x hx'
          rw [hox] at ho; injection ho with ho; subst ho
          rw [hoy] at hi; injection hi with hi; subst hi
          exact ⟨fun d hd => h2.imp (fun h => clear2_spec h hd) id, fun d hd => (clear1_spec h1 hd).2⟩
        · exact okD_pair r _ h7 x hx' y hy' hne ox oy hox hoy

/-! ### Temporaries that differ in some alone -/
structure Agree (S : Nat → Prop) (a b : Act) : Prop where
  defers : a.defers = b.defers
  size : a.tmps.size = b.tmps.size
  each : ∀ i, ¬ S i → a.tmps[i]? = b.tmps[i]?

theorem Agree.put {S : Nat → Prop} {a b : Act} (h : Agree S a b) (x : Option Tmp) (v : Value) : Agree S (a.put x v) (b.put x v) := by
  cases x with
  | none => exact h
  | some d =>
    refine ⟨h.defers, by simp [Act.put, h.size], fun i hi => ?_⟩
    simp only [Act.put, Array.getElem?_setIfInBounds, h.size, h.each i hi]

theorem Agree.exec {S : Nat → Prop} {a b : Act} (h : Agree S a b) {o : Oper} (hs : ∀ cs b, o.op ≠ .select cs b) (hd : ∀ d ∈ o.looksAt ops, ¬ S d) : execOp a.eval o = execOp b.eval o := by
  refine execOp_congr o hs fun x hx => ?_
  cases x with
  | tmp t =>
    have : t ∈ o.looksAt ops := List.mem_append_left _ (List.mem_filterMap.2 ⟨.tmp t, by simpa using hx, rfl⟩)
    simp only [Act.eval, Array.getD_eq_getD_getElem?, h.each t (hd t this)]
  | _ => rfl

theorem Agree.wanted {S : Nat → Prop} {a b : Act} (h : Agree S a b) {o : Oper} (hd : ∀ d ∈ o.looksAt ops, ¬ S d) : Region.wanted o (yielded ops a.tmps) = Region.wanted o (yielded ops b.tmps) := by
  unfold Region.wanted
  cases hg : o.guard with
  | none => rfl
  | some gw =>
    obtain ⟨g, want⟩ := gw
    have hy : yielded ops a.tmps g = yielded ops b.tmps g := by
      unfold yielded
      cases ht : (ops[g]?).bind (·.dst) with
      | none => rfl
      | some t =>
        have : t ∈ o.looksAt ops := by simp [Oper.looksAt, hg, ht]
        simp only [Option.bind_some, h.each t (hd t this)]
    simp only [hy]

theorem Agree.same {a b : Act} (h : Agree (fun _ => False) a b) : a = b := by
  obtain ⟨t, d⟩ := a
  obtain ⟨t', d'⟩ := b
  have h1 := h.defers
  simp only at h1
  subst h1
  have : t = t' := by
    apply Array.ext h.size
    intro i hi hi'
    have := h.each i (fun h => h)
    simp only [Array.getElem?_eq_getElem hi, Array.getElem?_eq_getElem hi', Option.some.injEq] at this
    exact this
  subst this
  rfl

variable {P : Program} {R : Ref} {σ : Ren}

/-- Memory that was made before its turn: by which operation; which block. -/
structure Early1 (P : Program) (ops : Array Oper) (R : Ref) (σ : Ren) (L : Array Bool) (a : Act) (w : World) (q g : Nat) (oq : Oper) (d : Tmp) (ob : Obj) (sh : Shape) : Prop where
  op : ops[q]? = some oq
  dst : oq.dst = some d
  after : ∀ e ∈ oq.after, Region.binds .any e = true → L.getD e.on false = true
  run : ∀ w1 : World, (execOp a.eval oq).run P w1 = .ok (.value (shapeV sh w1.heap.size)) (w1.alloc ob)
  tmp : d < a.tmps.size → a.tmps[d]? = some (shapeV sh g)
  lies : w.heap[g]? = some ob
  mine : R.mine g
  out : ∀ i e, σ.ent i = some e → e.blk ≠ g

def Early (P : Program) (ops : Array Oper) (R : Ref) (σ : Ren) (L : Array Bool) (a : Act) (w : World) (x : Nat × Nat) : Prop := ∃ oq d ob sh, Early1 P ops R σ L a w x.1 x.2 oq d ob sh

/-- What was made before its turn stays behind an operation that has nothing to do with it. -/
theorem Early.keep {L : Array Bool} {a : Act} {w w' : World} {x : Nat × Nat} (h : Early P ops R σ L a w x) (hsel : ∀ (j : Nat) (o : Oper) cs b, ops[j]? = some o → o.op ≠ .select cs b) {i : Nat} {dst : Option Tmp} (hun : L.getD i true = false)
    (h1 : ∀ oq, ops[x.1]? = some oq → (∀ d, oq.dst = some d → dst ≠ some d) ∧ ∀ d, dst = some d → d ∉ oq.looksAt ops ∨ Waits oq i) (v : Value) (hw : w'.heap[x.2]? = w.heap[x.2]?) {σ' : Ren} (ho : ∀ i e, σ'.ent i = some e → e.blk ≠ x.2) :
    Early P ops R σ' (L.setIfInBounds i true) (a.put dst v) w' x := by
  obtain ⟨oq, d, ob, sh, he⟩ := h
  obtain ⟨h2, h3⟩ := h1 oq he.op
  refine ⟨oq, d, ob, sh, he.op, he.dst, fun e hh hb => getD_set_true (he.after e hh hb), fun w1 => ?_, ?_, hw.trans he.lies, he.mine, ho⟩
  · rw [execOp_put (ops := ops) oq (fun cs b => hsel _ oq cs b he.op) a dst v fun d' hd' => ?_]
    · exact he.run w1
    · rcases h3 d' hd' with h | ⟨e, hh, hb, rfl⟩
      · exact h
      · have := he.after e hh hb
        rw [(getD_false hun).2] at this; cases this
  · have := h2 d he.dst
    cases dst with
    | none => exact he.tmp
    | some d' =>
      have hne : d' ≠ d := fun e => this (by rw [e])
      simp only [Act.put, Array.getElem?_setIfInBounds_ne hne, Array.size_setIfInBounds]
      exact he.tmp

/-- The temporaries of those. -/
def dsts (ops : Array Oper) (E : List (Nat × Nat)) (d : Nat) : Prop := ∃ x ∈ E, ∃ o, ops[x.1]? = some o ∧ o.dst = some d

/-! ### The world to look back to, anew -/

/-- From here on, with what is known. -/
def Ref.now (σ : Ren) (w : World) : Ref := ⟨w, fun k => ∃ i e, σ.ent i = some e ∧ e.blk = k⟩

theorem WR.now {m : AM} {w : World} (h : WR R σ m w) : WR (Ref.now σ w) σ m w :=
  ⟨⟨rfl, rfl, rfl, Nat.le_refl _, fun _ _ _ => rfl⟩, h.pos, fun i e he => ⟨(h.ent i e he).1, (h.ent i e he).2.1, .inl ⟨i, e, he, rfl⟩, (h.ent i e he).2.2.2⟩, h.obj, h.inj⟩

theorem WR.back {m m' : AM} {w w' : World} (h : WR R σ m w) {σ' : Ren} (h' : WR (Ref.now σ w) σ' m' w') : WR R σ' m' w' := by
  have hk : ∀ k, (Ref.now σ w).mine k → R.mine k := by
    intro k hk
    rcases hk with ⟨i, e, he, rfl⟩ | hk
    · exact (h.ent i e he).2.2.1
    · exact .inr (Nat.le_trans h.below.size hk)
  refine ⟨⟨h'.below.os.trans h.below.os, h'.below.tape.trans h.below.tape, h'.below.output.trans h.below.output, Nat.le_trans h.below.size h'.below.size, fun k hk1 hk2 => ?_⟩, h'.pos, fun i e he => ?_, h'.obj, h'.inj⟩
  · have hlt : k < w.heap.size := Nat.lt_of_lt_of_le hk1 h.below.size
    have : ¬ (Ref.now σ w).K k := by
      rintro ⟨i, e, he, rfl⟩
      rcases (h.ent i e he).2.2.1 with h3 | h3
      · exact hk2 h3
      · omega
    exact (h'.below.block k hlt this).trans (h.below.block k hk1 hk2)
  · obtain ⟨g1, g2, g3, g4⟩ := h'.ent i e he
    exact ⟨g1, g2, hk _ g3, g4⟩

/-- What isn't known stays as it was. -/
theorem WR.kept {m' : AM} {w w' : World} {σ' : Ren} (h' : WR (Ref.now σ w) σ' m' w') {g : Nat} (hg : g < w.heap.size) (ho : ∀ i e, σ.ent i = some e → e.blk ≠ g) : w'.heap[g]? = w.heap[g]? ∧ ∀ i e, σ'.ent i = some e → e.blk ≠ g := by
  refine ⟨h'.below.block g hg fun ⟨i, e, he, hb⟩ => ho i e he hb, fun i e he hb => ?_⟩
  rcases (h'.ent i e he).2.2.1 with ⟨j, e', h1, h2⟩ | h3
  · exact ho j e' h1 (h2.trans hb)
  · have : w.heap.size ≤ g := by rw [← hb]; exact h3
    omega

theorem WR.unknown {m : AM} {w : World} (h : WR R σ m w) (o : Obj) : WR R σ m (w.alloc o) := by
  refine ⟨h.below.alloc o, h.pos, fun i e he => ?_, fun i x hx => ?_, h.inj⟩
  · obtain ⟨g1, g2, g3, g4⟩ := h.ent i e he
    exact ⟨g1, g2, g3, by simp; omega⟩
  · obtain ⟨e, o', h1, h2, h3⟩ := h.obj i x hx
    exact ⟨e, o', h1, (Below.heap_alloc w o _ (h.ent i e h1).2.2.2).trans h2, h3⟩
end

theorem len_le_of_sub : ∀ (l k : List Nat), l.Nodup → (∀ x ∈ l, x ∈ k) → l.length ≤ k.length
  | [], _, _, _ => Nat.zero_le _
  | x :: l, k, hn, h => by
    obtain ⟨h1, h2⟩ := List.nodup_cons.1 hn
    have hx := h x (by simp)
    have := len_le_of_sub l (k.erase x) h2 fun y hy => (List.mem_erase_of_ne (fun e => h1 (by rw [← e]; exact hy))).2 (h y (by simp [hy]))
    rw [List.length_erase_of_mem hx] at this
    have : 0 < k.length := List.length_pos_of_mem hx
    simp only [List.length_cons]
    omega

theorem freshOf_len : ∀ (p : DPlan), (freshOf p).length ≤ p.length
  | [] => Nat.le_refl _
  | (_, .free) :: r => by have := freshOf_len r; simp only [freshOf, List.length_cons]; omega
  | (_, .strict) :: r => by have := freshOf_len r; simp only [freshOf, List.length_cons]; omega
  | (_, .fresh) :: r => by have := freshOf_len r; simp only [freshOf, List.length_cons]; omega
end Go.Proofs.Ytfbphlakbhmpeaa
