/-
  The same, part 11: regions that draw their order: what has come up, what is apart, and memory made before its turn. No condition.
-/
import Derived.Test.YtfghccppoilfhaaCeJ
namespace Go.Proofs.Ytfghccppoilfhaa
open Go.RowKit

/-! ### What has come up -/

theorem setAll_set : ∀ (l : List Nat) (D : Array Bool) (i : Nat), setAll (D.setIfInBounds i true) l = (setAll D l).setIfInBounds i true := by
  intro l
  induction l with
  | nil => intro D i; rfl
  | cons j l ih =>
    intro D i
    show setAll ((D.setIfInBounds i true).setIfInBounds j true) l = (setAll (D.setIfInBounds j true) l).setIfInBounds i true
    by_cases h : i = j
    · subst h; exact ih _ _
    · rw [Array.setIfInBounds_comm _ _ h, ih]

theorem setAll_cons (D : Array Bool) (i : Nat) (l : List Nat) : setAll D (i :: l) = (setAll D l).setIfInBounds i true := setAll_set l D i

theorem setAll_mid (D : Array Bool) (i : Nat) : ∀ (l k : List Nat), setAll D (l ++ i :: k) = setAll (D.setIfInBounds i true) (l ++ k)
  | [], k => rfl
  | j :: l, k => by
    rw [List.cons_append, List.cons_append, setAll_cons, setAll_cons, setAll_mid D i l k]

theorem getD_false {A : Array Bool} {j : Nat} (h : A.getD j true = false) : j < A.size ∧ A.getD j false = false := by
  rcases Nat.lt_or_ge j A.size with h' | h'
  · refine ⟨h', ?_⟩
    simp only [Array.getD_eq_getD_getElem?, Array.getElem?_eq_getElem h', Option.getD_some] at h ⊢
    exact h
  · simp [Array.getElem?_eq_none h'] at h

theorem getD_true {A : Array Bool} {j : Nat} (h : A.getD j false = true) : j < A.size ∧ A.getD j true = true := by
  rcases Nat.lt_or_ge j A.size with h' | h'
  · refine ⟨h', ?_⟩
    simp only [Array.getD_eq_getD_getElem?, Array.getElem?_eq_getElem h', Option.getD_some] at h ⊢
    exact h
  · simp [Array.getElem?_eq_none h'] at h

theorem setAll_not {j : Nat} (x : Bool) : ∀ (l : List Nat) (D : Array Bool), j ∉ l → (setAll D l).getD j x = D.getD j x
  | [], _, _ => rfl
  | i :: l, D, h => by
    rw [setAll_cons, getD_set_ne x (fun e => h (by simp [e]))]
    exact setAll_not x l D fun e => h (by simp [e])

theorem setAll_size : ∀ (l : List Nat) (D : Array Bool), (setAll D l).size = D.size
  | [], _ => rfl
  | i :: l, D => by rw [setAll_cons]; simp [setAll_size l D]

theorem setAll_mem {j : Nat} : ∀ (l : List Nat) (D : Array Bool), j ∈ l → j < D.size → (setAll D l).getD j false = true
  | [], _, h, _ => by cases h
  | i :: l, D, h, hs => by
    rw [setAll_cons]
    by_cases hij : i = j
    · subst hij
      have : i < (setAll D l).size := by rw [setAll_size]; exact hs
      simp [this]
    · rw [getD_set_ne false hij]
      rcases List.mem_cons.1 h with h | h
      · exact absurd h.symm hij
      · exact setAll_mem l D h hs

theorem setAll_un {j : Nat} {l : List Nat} {D : Array Bool} (h : (setAll D l).getD j true = false) : j ∉ l ∧ D.getD j true = false := by
  obtain ⟨h1, h2⟩ := getD_false h
  have hn : j ∉ l := fun hm => by
    rw [setAll_size] at h1
    rw [setAll_mem l D hm h1] at h2; cases h2
  exact ⟨hn, by rw [← setAll_not true l D hn]; exact h⟩

section
variable {ops : Array Oper}

theorem ready_setAll {D : Array Bool} {A B : List Nat} {r : Nat} (h : r ∈ Region.ready .any ops (setAll D A)) (hAB : ∀ x ∈ A, x ∈ B) (hr : r ∉ B) : r ∈ Region.ready .any ops (setAll D B) := by
  rw [mem_ready] at h ⊢
  obtain ⟨h1, o, ho, hall⟩ := h
  refine ⟨?_, o, ho, fun e he hb => ?_⟩
  · rw [setAll_not true B D hr]
    exact (setAll_un h1).2
  · have h2 := hall e he hb
    by_cases hm : e.on ∈ B
    · have := (getD_true h2).1
      rw [setAll_size] at this
      exact setAll_mem B D hm this
    · rw [setAll_not false B D hm]
      rw [setAll_not false A D (fun hh => hm (hAB _ hh))] at h2
      exact h2

def Waits (o : Oper) (i : Nat) : Prop := ∃ e ∈ o.after, Region.binds .any e = true ∧ e.on = i

def clear1 (ops : Array Oper) (x y : Oper) : Prop := ∀ d, x.dst = some d → d ∉ y.looksAt ops ∧ y.dst ≠ some d
def clear2 (ops : Array Oper) (x y : Oper) : Prop := ∀ d, y.dst = some d → d ∉ x.looksAt ops

def OkD (ops : Array Oper) : DPlan → Array Bool → Prop
  | [], D => Region.ready .any ops D = []
  | p :: r, D => (ops[p.i]? = some p.o ∧ p.wt = waitsOf p.o.after.toList ∧ p.i ∈ Region.ready .any ops D ∧
    (∀ q ∈ freshOf r, ∃ oq, ops[q]? = some oq ∧ clear1 ops oq p.o ∧ (clear2 ops oq p.o ∨ Waits oq p.i)) ∧
    (p.k = .free → ∀ j oj, ops[j]? = some oj → j ≠ p.i → D.getD j true = false → (∀ e ∈ oj.after, Region.binds .any e = true → e.on ≠ p.i) → p.o.apart ops oj = true) ∧
    (p.k = .fresh → freshOp p.o = true ∧ clear2 ops p.o p.o) ∧
    (p.k ≠ .free → ∀ r' ∈ Region.ready .any ops (setAll D (freshOf r)), r' = p.i)) ∧ OkD ops r (D.setIfInBounds p.i true)

theorem freshOf_cons (p : PItem) (r : DPlan) : freshOf (p :: r) = if p.k = .fresh then p.i :: freshOf r else freshOf r := by
  obtain ⟨i, k, o, w⟩ := p
  cases k <;> simp [freshOf]

theorem mem_freshOf {x : Nat} : ∀ {l : DPlan}, x ∈ freshOf l ↔ ∃ p ∈ l, p.k = .fresh ∧ p.i = x
  | [] => by simp [freshOf]
  | p :: r => by
    rw [freshOf_cons]
    by_cases h : p.k = .fresh
    · rw [if_pos h, List.mem_cons, mem_freshOf (l := r)]
      constructor
      · rintro (rfl | ⟨q, hq, hk⟩)
        · exact ⟨p, by simp, h, rfl⟩
        · exact ⟨q, by simp [hq], hk⟩
      · rintro ⟨q, hq, hk, rfl⟩
        rcases List.mem_cons.1 hq with rfl | hq
        · exact .inl rfl
        · exact .inr ⟨q, hq, hk, rfl⟩
    · rw [if_neg h, mem_freshOf (l := r)]
      constructor
      · rintro ⟨q, hq, hk⟩; exact ⟨q, by simp [hq], hk⟩
      · rintro ⟨q, hq, hk, rfl⟩
        rcases List.mem_cons.1 hq with rfl | hq
        · exact absurd hk h
        · exact ⟨q, hq, hk, rfl⟩

theorem OkD.fresh : ∀ (plan : DPlan) (D : Array Bool), OkD ops plan D → ∀ p ∈ plan, p.k = .fresh → ops[p.i]? = some p.o ∧ p.wt = waitsOf p.o.after.toList ∧ freshOp p.o = true ∧ clear2 ops p.o p.o
  | [], _, _, _, h, _ => by cases h
  | p :: r, D, h, q, hq, hk => by
    rcases List.mem_cons.1 hq with rfl | hq
    · exact ⟨h.1.1, h.1.2.1, h.1.2.2.2.2.2.1 hk⟩
    · exact OkD.fresh r _ h.2 q hq hk

theorem OkD.pair : ∀ (plan : DPlan) (D : Array Bool), OkD ops plan D → ∀ x ∈ freshOf plan, ∀ y ∈ freshOf plan, x ≠ y → ∀ ox oy, ops[x]? = some ox → ops[y]? = some oy →
    (∀ d, oy.dst = some d → d ∉ ox.looksAt ops ∨ Waits ox y) ∧ ∀ d, ox.dst = some d → oy.dst ≠ some d
  | [], _, _, _, h, _, _, _, _, _, _, _ => by cases h
  | p :: r, D, h, x, hx, y, hy, hne, ox, oy, hox, hoy => by
    obtain ⟨⟨hi, _, _, h3, _⟩, h7⟩ := h
    rw [freshOf_cons] at hx hy
    split at hx
    · rename_i hk
      rw [if_pos hk] at hy
      rcases List.mem_cons.1 hx with rfl | hx'
      · rcases List.mem_cons.1 hy with rfl | hy'
        · exact absurd rfl hne
        · obtain ⟨o, ho, h1, _⟩ := h3 y hy'
          rw [hoy] at ho; injection ho with ho; subst ho
          rw [hox] at hi; injection hi with hi; subst hi
          exact ⟨fun d hd => .inl (h1 d hd).1, fun d hd he => (h1 d he).2 hd⟩
      · rcases List.mem_cons.1 hy with rfl | hy'
        · obtain ⟨o, ho, h1, h2⟩ := h3 x hx'
          rw [hox] at ho; injection ho with ho; subst ho
          rw [hoy] at hi; injection hi with hi; subst hi
          exact ⟨fun d hd => h2.imp (fun h => h d hd) id, fun d hd => (h1 d hd).2⟩
        · exact OkD.pair r _ h7 x hx' y hy' hne ox oy hox hoy
    · rename_i hk
      rw [if_neg hk] at hy
      exact OkD.pair r _ h7 x hx y hy hne ox oy hox hoy

/-! ### It may be gone through so, by bits -/
theorem bit_lor (x y i : Nat) : (Nat.lor x y).testBit i = (x.testBit i || y.testBit i) := Nat.testBit_or x y i
theorem bit_land (x y i : Nat) : (Nat.land x y).testBit i = (x.testBit i && y.testBit i) := Nat.testBit_and x y i
theorem bit_of (n m : Nat) : (bitOf n).testBit m = decide (n = m) := Nat.testBit_two_pow
theorem subB_spec {a b : Nat} (h : subB a b = true) (i : Nat) (hi : a.testBit i = true) : b.testBit i = true := by
  have h1 := Nat.eq_of_beq_eq_true h
  rw [← h1, bit_land, Bool.and_eq_true] at hi
  exact hi.2
theorem subB_of {a b : Nat} (h : ∀ i, a.testBit i = true → b.testBit i = true) : subB a b = true := by
  have : Nat.land a b = a := Nat.eq_of_testBit_eq fun i => by
    rw [bit_land]
    cases ha : a.testBit i
    · rfl
    · rw [h i ha]; rfl
  unfold subB
  rw [this]; exact Nat.beq_refl a
theorem apartB_spec {a b : Nat} (h : apartB a b = true) (i : Nat) (hi : a.testBit i = true) : b.testBit i = false := by
  have h1 := Nat.eq_of_beq_eq_true h
  have h2 := bit_land a b i
  rw [h1, Nat.zero_testBit, hi, Bool.true_and] at h2
  exact h2.symm

theorem waits_bit {o : Oper} {i : Nat} : (waitsOf o.after.toList).testBit i = true ↔ Waits o i := by
  have key : ∀ l : List Edge, (waitsOf l).testBit i = true ↔ ∃ e ∈ l, Region.binds .any e = true ∧ e.on = i := by
    intro l
    induction l with
    | nil => simp [waitsOf]
    | cons e r ih =>
      unfold waitsOf
      cases hb : Region.binds .any e
      · simp only [cond_false, ih, List.mem_cons]
        constructor
        · rintro ⟨x, hx, h⟩; exact ⟨x, .inr hx, h⟩
        · rintro ⟨x, rfl | hx, h⟩
          · rw [hb] at h; exact absurd h.1 (by simp)
          · exact ⟨x, hx, h⟩
      · simp only [cond_true, bit_lor, bit_of, Bool.or_eq_true, decide_eq_true_eq, ih, List.mem_cons]
        constructor
        · rintro (rfl | ⟨x, hx, h⟩)
          · exact ⟨e, .inl rfl, hb, rfl⟩
          · exact ⟨x, .inr hx, h⟩
        · rintro ⟨x, rfl | hx, h⟩
          · exact .inl h.2
          · exact .inr ⟨x, hx, h⟩
  rw [key]
  simp [Waits]

theorem fresh_bit {i : Nat} : ∀ {l : DPlan}, (freshBits l).testBit i = true ↔ i ∈ freshOf l
  | [] => by simp [freshBits, freshOf]
  | ⟨j, k, o, w⟩ :: r => by
    cases k with
    | fresh => simp only [freshBits, freshOf, bit_lor, bit_of, Bool.or_eq_true, decide_eq_true_eq, List.mem_cons, fresh_bit (l := r)]; exact or_congr_left eq_comm
    | free => exact fresh_bit (l := r)
    | strict => exact fresh_bit (l := r)

theorem nthD_map {d : Nat} : ∀ (l : List Oper) (i : Nat), (nthD (l.map dstBit) i).testBit d = true ↔ ∃ o, l[i]? = some o ∧ o.dst = some d
  | [], i => by simp [nthD]
  | o :: r, 0 => by
    simp only [List.map_cons, nthD, dstBit, List.getElem?_cons_zero, Option.some.injEq, exists_eq_left']
    cases o.dst <;> simp [bit_of]
  | o :: r, i + 1 => by simpa [nthD] using nthD_map r i

theorem orAll_bit {d : Nat} : ∀ (l : List Nat) (i : Nat), (nthD l i).testBit d = true → (orAll l).testBit d = true
  | [], i, h => by simp [nthD] at h
  | x :: r, 0, h => by simp only [nthD] at h; simp [orAll, h]
  | x :: r, i + 1, h => by simp only [nthD] at h; simp [orAll, orAll_bit r i h]

theorem eachOnce_acc {d : Nat} : ∀ (l : List Nat) (acc i : Nat), eachOnce l acc = true → acc.testBit d = true → (nthD l i).testBit d = false
  | [], _, _, _, _ => by simp [nthD]
  | x :: r, acc, 0, h, ha => by
    simp only [eachOnce, Bool.and_eq_true] at h
    cases hx : x.testBit d
    · exact hx
    · rw [apartB_spec h.1 d hx] at ha; cases ha
  | x :: r, acc, i + 1, h, ha => by
    simp only [eachOnce, Bool.and_eq_true] at h
    exact eachOnce_acc r _ i h.2 (by rw [bit_lor, ha, Bool.or_true])

theorem eachOnce_spec {d : Nat} : ∀ (l : List Nat) (acc i j : Nat), eachOnce l acc = true → (nthD l i).testBit d = true → (nthD l j).testBit d = true → i = j
  | [], _, i, _, _, h, _ => by simp [nthD] at h
  | x :: r, acc, 0, 0, _, _, _ => rfl
  | x :: r, acc, 0, j + 1, h, h1, h2 => by
    simp only [eachOnce, Bool.and_eq_true] at h
    simp only [nthD] at h1 h2
    rw [eachOnce_acc r _ j h.2 (by rw [bit_lor, h1, Bool.true_or])] at h2; cases h2
  | x :: r, acc, i + 1, 0, h, h1, h2 => by
    simp only [eachOnce, Bool.and_eq_true] at h
    simp only [nthD] at h1 h2
    rw [eachOnce_acc r _ i h.2 (by rw [bit_lor, h2, Bool.true_or])] at h1; cases h1
  | x :: r, acc, i + 1, j + 1, h, h1, h2 => by
    simp only [eachOnce, Bool.and_eq_true] at h
    rw [eachOnce_spec r _ i j h.2 h1 h2]

theorem waitsBits_spec {ds : List Nat} {d : Nat} : ∀ (l : List Edge), (waitsBits ds l).testBit d = true → ∃ e ∈ l, Region.binds .any e = true ∧ (nthD ds e.on).testBit d = true
  | [], h => by simp [waitsBits] at h
  | e :: r, h => by
    unfold waitsBits at h
    cases hb : Region.binds .any e
    · simp only [hb, cond_false] at h
      obtain ⟨x, hx, h1⟩ := waitsBits_spec r h
      exact ⟨x, by simp [hx], h1⟩
    · simp only [hb, cond_true, bit_lor, Bool.or_eq_true] at h
      rcases h with h | h
      · exact ⟨e, by simp, hb, h⟩
      · obtain ⟨x, hx, h1⟩ := waitsBits_spec r h
        exact ⟨x, by simp [hx], h1⟩

theorem tmpsOf_bit {d : Nat} : ∀ (l : List Operand), .tmp d ∈ l → (tmpsOf l).testBit d = true
  | [], h => by cases h
  | x :: r, h => by
    rcases List.mem_cons.1 h with rfl | h
    · simp [tmpsOf, bit_of]
    · have := tmpsOf_bit r h
      cases x <;> simp [tmpsOf, this]

structure Data (ops : Array Oper) : Prop where
  once : ∀ (i j : Nat) (x y : Oper) (d : Tmp), ops[i]? = some x → ops[j]? = some y → x.dst = some d → y.dst = some d → i = j
  waits : ∀ (i j : Nat) (x y : Oper) (d : Tmp), ops[i]? = some x → ops[j]? = some y → y.dst = some d → d ∈ x.looksAt ops → Waits x j ∨ (i ≠ j ∧ freshOp y = false ∧ Waits y i)

theorem antiBits_spec {i d : Nat} : ∀ (l : List Oper) (n : Nat), (antiBits i l n).testBit d = true → ∃ j y, l[j]? = some y ∧ i ≠ n + j ∧ freshOp y = false ∧ Waits y i ∧ y.dst = some d
  | [], _, h => by simp [antiBits] at h
  | y :: r, n, h => by
    rw [antiBits, bit_lor, Bool.or_eq_true] at h
    rcases h with h | h
    · refine ⟨0, y, rfl, ?_⟩
      cases hc : (!Nat.beq i n && !freshOp y && !apartB (bitOf i) (waitsOf y.after.toList)) with
      | false => rw [hc] at h; simp at h
      | true =>
        rw [hc] at h
        simp only [cond_true] at h
        simp only [Bool.and_eq_true, Bool.not_eq_true'] at hc
        obtain ⟨⟨c1, c2⟩, c3⟩ := hc
        refine ⟨fun e => ?_, c2, ?_, ?_⟩
        · rw [Nat.add_zero] at e
          rw [e, Nat.beq_refl] at c1; cases c1
        · refine waits_bit.1 ?_
          cases hb : (waitsOf y.after.toList).testBit i with
          | true => rfl
          | false =>
            have : apartB (bitOf i) (waitsOf y.after.toList) = true := by
              unfold apartB
              refine Nat.beq_eq ▸ (Nat.eq_of_testBit_eq fun k => ?_ : Nat.land (bitOf i) (waitsOf y.after.toList) = 0)
              rw [bit_land, bit_of, Nat.zero_testBit]
              by_cases hk : i = k
              · subst hk; simp [hb]
              · simp [hk]
            rw [this] at c3; cases c3
        · unfold dstBit at h
          cases hd : y.dst with
          | none => rw [hd] at h; simp at h
          | some e => rw [hd] at h; simp only [bit_of, decide_eq_true_eq] at h; rw [h]
    · obtain ⟨j, y', h1, h2, h3⟩ := antiBits_spec r (n + 1) h
      exact ⟨j + 1, y', by simpa using h1, by omega, h3⟩

theorem dataOk_spec (h : dataOk ops = true) : Data ops := by
  obtain ⟨l⟩ := ops
  simp only [dataOk, Bool.and_eq_true] at h
  obtain ⟨h1, h2⟩ := h
  have once : ∀ (i j : Nat) (x y : Oper) (d : Tmp), l[i]? = some x → l[j]? = some y → x.dst = some d → y.dst = some d → i = j := fun i j x y d hx hy hdx hdy =>
    eachOnce_spec _ _ i j h1 ((nthD_map l i).2 ⟨x, hx, hdx⟩) ((nthD_map l j).2 ⟨y, hy, hdy⟩)
  refine ⟨fun i j x y d hx hy => once i j x y d (by simpa using hx) (by simpa using hy), fun i j x y d hx hy hd hl => ?_⟩
  have hx' : l[i]? = some x := by simpa using hx
  have hy' : l[j]? = some y := by simpa using hy
  have hok : ∀ (k : List Oper) (n m : Nat), looksOk (l.map dstBit) (orAll (l.map dstBit)) l k n = true → k[m]? = some x →
      subB (Nat.land (looksBits (l.map dstBit) x) (orAll (l.map dstBit))) (Nat.lor (waitsBits (l.map dstBit) x.after.toList) (antiBits (n + m) l 0)) = true := by
    intro k
    induction k with
    | nil => intro _ _ _ h; simp at h
    | cons o r ih =>
      intro n m hh hm
      simp only [looksOk, Bool.and_eq_true, Bool.or_eq_true] at hh
      cases m with
      | zero =>
        simp only [List.getElem?_cons_zero, Option.some.injEq] at hm
        subst hm
        rcases hh.1 with h | h
        · exact subB_of fun b hb => by rw [bit_lor, subB_spec h b hb]; rfl
        · exact h
      | succ m =>
        have := ih (n + 1) m hh.2 (by simpa using hm)
        rw [show n + 1 + m = n + (m + 1) by omega] at this
        exact this
  have hsub := hok l 0 i h2 hx'
  rw [Nat.zero_add] at hsub
  have hall : (orAll (l.map dstBit)).testBit d = true := orAll_bit _ j ((nthD_map l j).2 ⟨y, hy', hd⟩)
  have hlook : (looksBits (l.map dstBit) x).testBit d = true := by
    unfold looksBits
    rw [bit_lor, Bool.or_eq_true]
    rcases List.mem_append.1 hl with h | h
    · left
      obtain ⟨t, ht, hh⟩ := List.mem_filterMap.1 h
      cases t <;> simp only [Option.some.injEq, reduceCtorEq] at hh
      subst hh
      exact tmpsOf_bit _ ht
    · right
      cases hg : x.guard with
      | none => rw [hg] at h; cases h
      | some q =>
        obtain ⟨g, b⟩ := q
        rw [hg] at h
        simp only at h ⊢
        refine (nthD_map l g).2 ?_
        cases hgo : l[g]? with
        | none => simp [hgo] at h
        | some z => exact ⟨z, rfl, by simpa [hgo, eq_comm] using h⟩
  have hor := subB_spec hsub d (by rw [bit_land, hlook, hall]; rfl)
  rw [bit_lor, Bool.or_eq_true] at hor
  rcases hor with hor | hor
  · obtain ⟨e, he, hb, hbit⟩ := waitsBits_spec _ hor
    obtain ⟨z, hz, hzd⟩ := (nthD_map l e.on).1 hbit
    exact .inl ⟨e, by simpa using he, hb, once _ _ z y d hz hy' hzd hd⟩
  · obtain ⟨j', y', g1, g2, g3, g4, g5⟩ := antiBits_spec l 0 hor
    have hj := once _ _ y' y d g1 hy' g5 hd
    subst hj
    rw [g1] at hy'; injection hy' with hy'; subst hy'
    exact .inr ⟨by omega, g3, g4⟩

theorem okP_fresh {n : Nat} : ∀ (plan : DPlan) (L : Nat), okP n plan L = true → ∀ p ∈ plan, p.k = .fresh → freshOp p.o = true
  | [], _, _, _, h, _ => by cases h
  | p :: r, L, h, q, hq, hk => by
    simp only [okP, Bool.and_eq_true] at h
    rcases List.mem_cons.1 hq with rfl | hq
    · have := h.1.2
      rw [hk] at this
      simp only [Bool.and_eq_true] at this
      exact this.1
    · exact okP_fresh r _ h.2 q hq hk

structure BitsOf (ops : Array Oper) (D : Array Bool) (L : Nat) : Prop where
  size : D.size = ops.size
  bit : ∀ j, L.testBit j = D.getD j false

theorem BitsOf.set {D : Array Bool} {L i : Nat} (h : BitsOf ops D L) (hi : i < ops.size) : BitsOf ops (D.setIfInBounds i true) (Nat.lor L (bitOf i)) := by
  refine ⟨by simp [h.size], fun j => ?_⟩
  rw [bit_lor, bit_of, h.bit]
  by_cases hij : i = j
  · subst hij
    have : i < D.size := by rw [h.size]; exact hi
    simp [this]
  · rw [getD_set_ne false hij]; simp [hij]

theorem okP_un {n : Nat} : ∀ (plan : DPlan) (L : Nat), okP n plan L = true → ∀ p ∈ plan, L.testBit p.i = false
  | [], _, _, _, h => by cases h
  | p :: r, L, h, q, hq => by
    simp only [okP, Bool.and_eq_true] at h
    rcases List.mem_cons.1 hq with rfl | hq
    · exact apartB_spec h.1.1.1 _ (by simp [bit_of])
    · have := okP_un r _ h.2 q hq
      rw [bit_lor, Bool.or_eq_false_iff] at this
      exact this.1

theorem okP_cover {n : Nat} : ∀ (plan : DPlan) (L : Nat), okP n plan L = true → ∀ j, j < n → L.testBit j = false → ∃ p ∈ plan, p.i = j
  | [], L, h, j, hj, hL => by
    have h1 : L = bitOf n - 1 := Nat.eq_of_beq_eq_true h
    rw [h1] at hL
    have := Nat.testBit_two_pow_sub_one n j
    rw [show (2 ^ n - 1) = bitOf n - 1 from rfl, hL] at this
    simp [hj] at this
  | p :: r, L, h, j, hj, hL => by
    simp only [okP, Bool.and_eq_true] at h
    by_cases hp : p.i = j
    · exact ⟨p, by simp, hp⟩
    · obtain ⟨q, hq, h1⟩ := okP_cover r _ h.2 j hj (by rw [bit_lor, hL, bit_of]; simp [hp])
      exact ⟨q, by simp [hq], h1⟩

theorem aloneP_spec {L : Nat} : ∀ (r : DPlan), aloneP L r = true → ∀ p ∈ r, p.k = .fresh ∨ subB p.wt L = false
  | [], _, _, h => by cases h
  | q :: r, h, p, hp => by
    simp only [aloneP, Bool.and_eq_true, Bool.or_eq_true, Bool.not_eq_true'] at h
    rcases List.mem_cons.1 hp with rfl | hp
    · refine h.1.imp (fun h => ?_) id
      cases hk : p.k <;> rw [hk] at h <;> first | rfl | cases h
    · exact aloneP_spec r h.2 p hp

theorem apart_of {x y : Oper} (h1 : ∀ d, x.dst = some d → d ∉ y.looksAt ops ∧ y.dst ≠ some d) (h2 : ∀ d, y.dst = some d → d ∉ x.looksAt ops) : x.apart ops y = true := by
  unfold Oper.apart
  cases hx : x.dst with
  | none =>
    cases hy : y.dst with
    | none => rfl
    | some e => simpa using h2 e hy
  | some d =>
    have := h1 d hx
    cases hy : y.dst with
    | none => simpa using this.1
    | some e =>
      have h3 := h2 e hy
      have h4 : e ≠ d := fun he => this.2 (by rw [hy, he])
      simp [this.1, h3, h4]

theorem okD_of (hd : Data ops) : ∀ (plan : DPlan) (D : Array Bool) (L : Nat), okP ops.size plan L = true → (∀ p ∈ plan, ops[p.i]? = some p.o ∧ p.wt = waitsOf p.o.after.toList) → BitsOf ops D L → OkD ops plan D
  | [], D, L, h, _, hb => by
    refine List.eq_nil_iff_forall_not_mem.2 fun j hj => ?_
    obtain ⟨h1, o, ho, _⟩ := mem_ready.1 hj
    have hlt : j < ops.size := (Array.getElem?_eq_some_iff.1 ho).1
    have h2 : L = bitOf ops.size - 1 := Nat.eq_of_beq_eq_true h
    have h3 := hb.bit j
    rw [(getD_false h1).2, h2, show (bitOf ops.size - 1) = 2 ^ ops.size - 1 from rfl, Nat.testBit_two_pow_sub_one] at h3
    simp [hlt] at h3
  | p :: r, D, L, h, hp, hb => by
    have hun := okP_un _ _ h
    have hcov := okP_cover _ _ h
    simp only [okP, Bool.and_eq_true] at h
    obtain ⟨⟨⟨h1, h2⟩, h3⟩, h4⟩ := h
    obtain ⟨hpo, hpw⟩ := hp p (by simp)
    have hlt : p.i < ops.size := (Array.getElem?_eq_some_iff.1 hpo).1
    have hLi := hun p (by simp)
    have hDi : D.getD p.i true = false := by
      have := hb.bit p.i
      rw [hLi] at this
      have hs : p.i < D.size := by rw [hb.size]; exact hlt
      simp only [Array.getD_eq_getD_getElem?, Array.getElem?_eq_getElem hs, Option.getD_some] at this ⊢
      exact this.symm
    have hwl : ∀ b, Waits p.o b → L.testBit b = true := fun b hw => subB_spec h2 b (by rw [hpw]; exact waits_bit.2 hw)
    have hnext := hb.set hlt
    have hunr := okP_un _ _ h4
    have hri : p.i ∈ Region.ready .any ops D := mem_ready.2 ⟨hDi, p.o, hpo, fun e he hbd => by rw [← hb.bit]; exact hwl e.on ⟨e, he, hbd, rfl⟩⟩
    refine ⟨⟨hpo, hpw, hri, ?_, ?_, ?_, ?_⟩, okD_of hd r _ _ h4 (fun q hq => hp q (by simp [hq])) hnext⟩
    · intro q hq
      obtain ⟨p', hp', hk, rfl⟩ := mem_freshOf.1 hq
      obtain ⟨hpo', _⟩ := hp p' (by simp [hp'])
      have hne : p.i ≠ p'.i := fun e => by
        have := hunr p' hp'
        rw [bit_lor, bit_of, ← e] at this
        simp at this
      refine ⟨p'.o, hpo', fun d hdd => ⟨fun hl => ?_, fun hd2 => hne (hd.once _ _ _ _ d hpo hpo' hd2 hdd)⟩, ?_⟩
      · rcases hd.waits _ _ _ _ d hpo hpo' hdd hl with hq | ⟨_, hnf, _⟩
        · have := hwl _ hq
          rw [hun p' (by simp [hp'])] at this; cases this
        · rw [okP_fresh r _ h4 p' hp' hk] at hnf; cases hnf
      · by_cases hw : Waits p'.o p.i
        · exact .inr hw
        · refine .inl fun d hdd hl => ?_
          rcases hd.waits _ _ _ _ d hpo' hpo hdd hl with hq | ⟨_, _, hq⟩
          · exact hw hq
          · have := hwl _ hq
            rw [hun p' (by simp [hp'])] at this; cases this
    · intro _ j oj hoj hji hun' hno
      refine apart_of (fun d hdd => ⟨fun hl => ?_, fun hd2 => hji (hd.once _ _ _ _ d hoj hpo hd2 hdd)⟩) fun d hdd hl => ?_
      · rcases hd.waits _ _ _ _ d hoj hpo hdd hl with ⟨e, he, hbd, heq⟩ | ⟨_, _, hq⟩
        · exact hno e he hbd heq
        · have := hwl _ hq
          rw [hb.bit, (getD_false hun').2] at this; cases this
      · rcases hd.waits _ _ _ _ d hpo hoj hdd hl with hq | ⟨_, _, ⟨e, he, hbd, heq⟩⟩
        · have := hwl _ hq
          rw [hb.bit, (getD_false hun').2] at this; cases this
        · exact hno e he hbd heq
    · intro hk
      rw [hk] at h3
      simp only [Bool.and_eq_true] at h3
      refine ⟨h3.1, fun d hdd hl => ?_⟩
      rcases hd.waits _ _ _ _ d hpo hpo hdd hl with hq | ⟨hne, _⟩
      · have := hwl _ hq
        rw [hLi] at this; cases this
      · exact hne rfl
    · intro hk r' hr'
      have hal : aloneP (Nat.lor L (freshBits r)) r = true := by
        cases hk' : p.k with
        | free => exact absurd hk' hk
        | strict => rw [hk'] at h3; exact h3
        | fresh => rw [hk'] at h3; simp only [Bool.and_eq_true] at h3; exact h3.2
      obtain ⟨g1, o', ho', g2⟩ := mem_ready.1 hr'
      obtain ⟨g3, g4⟩ := setAll_un g1
      have hlt' : r' < ops.size := (Array.getElem?_eq_some_iff.1 ho').1
      obtain ⟨p', hp', rfl⟩ := hcov r' hlt' (by rw [hb.bit]; exact (getD_false g4).2)
      rcases List.mem_cons.1 hp' with rfl | hp''
      · rfl
      · exfalso
        rcases aloneP_spec r hal p' hp'' with hf | hf
        · exact g3 (mem_freshOf.2 ⟨p', hp'', hf, rfl⟩)
        · obtain ⟨hpo', hpw'⟩ := hp p' (by simp [hp''])
          rw [ho'] at hpo'; injection hpo' with hpo'
          rw [subB_of ?_] at hf
          · cases hf
          · intro b hbw
            rw [hpw'] at hbw
            obtain ⟨e, he, hbd, rfl⟩ := waits_bit.1 hbw
            rw [← hpo'] at he
            have := g2 e he hbd
            rw [bit_lor, Bool.or_eq_true, fresh_bit, hb.bit]
            by_cases hm : e.on ∈ freshOf r
            · exact .inr hm
            · rw [setAll_not false _ _ hm] at this; exact .inl this

/-! ### What a plan consists of -/
theorem enumP_mem : ∀ (l : List Oper) (n : Nat) (p : PItem), p ∈ enumP l n → n ≤ p.i ∧ l[p.i - n]? = some p.o ∧ p.wt = waitsOf p.o.after.toList
  | [], _, _, h => by cases h
  | o :: r, n, p, h => by
    rcases List.mem_cons.1 h with rfl | h
    · simp
    · obtain ⟨h1, h2, h3⟩ := enumP_mem r (n + 1) p h
      refine ⟨by omega, ?_, h3⟩
      rw [show p.i - n = (p.i - (n + 1)) + 1 by omega]
      simpa using h2

theorem passP_mem (P : Program) : ∀ (l : DPlan) (L h : Nat) (p : PItem), (p ∈ (passP P l L h).1 ∨ p ∈ (passP P l L h).2.1) → p ∈ l
  | [], _, _, p, hp => by simp [passP] at hp
  | q :: r, L, h, p, hp => by
    unfold passP at hp
    cases hc : (subB q.wt L && !(strictOp P q.o || (isLoad q.o && !apartB (tmpsOf q.o.op.operands.toList) h)))
    · simp only [hc, cond_false, List.mem_cons] at hp
      have ih := passP_mem P r L h p
      rcases hp with hp | hp | hp
      · simp [ih (.inl hp)]
      · simp [hp]
      · simp [ih (.inr hp)]
    · simp only [hc, cond_true, List.mem_cons] at hp
      have ih := passP_mem P r (Nat.lor L (bitOf q.i)) (bif apartB (tmpsOf q.o.op.operands.toList) h then h else Nat.lor h (dstBit q.o)) p
      rcases hp with (hp | hp) | hp
      · simp [hp]
      · simp [ih (.inl hp)]
      · simp [ih (.inr hp)]

theorem pickP_mem {f : PItem → Bool} : ∀ (l : DPlan) (q : PItem) (m : DPlan), pickP f l = some (q, m) → q ∈ l ∧ ∀ p ∈ m, p ∈ l
  | [], _, _, h => by cases h
  | x :: r, q, m, h => by
    unfold pickP at h
    cases hf : f x
    · simp only [hf, cond_false] at h
      split at h
      · rename_i q' r' h'
        injection h with h; injection h with h1 h2; subst h1 h2
        obtain ⟨g1, g2⟩ := pickP_mem r _ _ h'
        refine ⟨by simp [g1], fun p hp => ?_⟩
        rcases List.mem_cons.1 hp with rfl | hp
        · simp
        · simp [g2 p hp]
      · cases h
    · simp only [hf, cond_true] at h
      injection h with h; injection h with h1 h2; subst h1 h2
      exact ⟨by simp, fun p hp => by simp [hp]⟩

theorem planP_mem (P : Program) : ∀ (k : Nat) (l : DPlan) (L h : Nat) (p : PItem), p ∈ planP P k l L h → ∃ q ∈ l, p.i = q.i ∧ p.o = q.o ∧ p.wt = q.wt
  | 0, _, _, _, _, h => by cases h
  | k + 1, l, L, h, p, hp => by
    unfold planP at hp
    have hpass := passP_mem P l L h
    generalize passP P l L h = q at hp hpass
    obtain ⟨e, m, L', h'⟩ := q
    simp only at hp hpass
    have tail : ∀ (q : PItem) (m' : DPlan) (kk : Kind), q ∈ m → (∀ x ∈ m', x ∈ m) → p ∈ q.as kk :: planP P k m' (Nat.lor L' (bitOf q.i)) (Nat.lor h' (dstBit q.o)) → ∃ q ∈ l, p.i = q.i ∧ p.o = q.o ∧ p.wt = q.wt := by
      intro q m' kk hq hm' hp
      rcases List.mem_cons.1 hp with rfl | hp
      · exact ⟨q, hpass q (.inr hq), rfl, rfl, rfl⟩
      · obtain ⟨x, hx, hh⟩ := planP_mem P k m' _ _ p hp
        exact ⟨x, hpass x (.inr (hm' x hx)), hh⟩
    rcases List.mem_append.1 hp with hp | hp
    · exact ⟨p, hpass p (.inl hp), rfl, rfl, rfl⟩
    · split at hp
      · rename_i q m' hpk
        obtain ⟨g1, g2⟩ := pickP_mem _ _ _ hpk
        exact tail q m' _ g1 g2 hp
      · split at hp
        · rename_i q m' hpk
          obtain ⟨g1, g2⟩ := pickP_mem _ _ _ hpk
          exact tail q m' _ g1 g2 hp
        · cases hp

theorem drawnOk_spec {P : Program} (h : drawnOk P ops = true) : Region.noSelect ops = true ∧ okP ops.size (planOf P ops) 0 = true ∧ (∀ p ∈ planOf P ops, p.i < ops.size) ∧ OkD ops (planOf P ops) (Array.replicate ops.size false) := by
  simp only [drawnOk, Bool.and_eq_true] at h
  obtain ⟨⟨h1, h2⟩, h3⟩ := h
  have hit : ∀ p ∈ planOf P ops, ops[p.i]? = some p.o ∧ p.wt = waitsOf p.o.after.toList := fun p hp => by
    obtain ⟨q, hq, e1, e2, e3⟩ := planP_mem P _ _ _ _ p hp
    obtain ⟨_, g2, g3⟩ := enumP_mem _ _ q hq
    rw [e1, e2, e3]
    exact ⟨by simpa using g2, g3⟩
  refine ⟨h1, h3, fun p hp => (Array.getElem?_eq_some_iff.1 (hit p hp).1).1, okD_of (dataOk_spec h2) _ _ _ h3 hit ⟨by simp, fun j => ?_⟩⟩
  · rw [Nat.zero_testBit]
    by_cases hj : j < ops.size <;> simp [Array.getD_eq_getD_getElem?, hj]

/-! ### Temporaries that differ in some alone -/
structure Agree (S : Nat → Prop) (a b : Act) : Prop where
  defers : a.defers = b.defers
  size : a.tmps.size = b.tmps.size
  each : ∀ i, ¬ S i → a.tmps[i]? = b.tmps[i]?

theorem Agree.put {S : Nat → Prop} {a b : Act} (h : Agree S a b) (x : Option Tmp) (v : Value) : Agree S (a.put x v) (b.put x v) := by
  cases x with
  | none => exact h
  | some d =>
    refine ⟨h.defers, by simp [Act.put, h.size], fun i hi => ?_⟩
    simp only [Act.put, Array.getElem?_setIfInBounds, h.size, h.each i hi]

theorem Agree.exec {S : Nat → Prop} {a b : Act} (h : Agree S a b) {o : Oper} (hs : ∀ cs b, o.op ≠ .select cs b) (hd : ∀ d ∈ o.looksAt ops, ¬ S d) : execOp a.eval o = execOp b.eval o := by
  refine execOp_congr o hs fun x hx => ?_
  cases x with
  | tmp t =>
    have : t ∈ o.looksAt ops := List.mem_append_left _ (List.mem_filterMap.2 ⟨.tmp t, by simpa using hx, rfl⟩)
    simp only [Act.eval, Array.getD_eq_getD_getElem?, h.each t (hd t this)]
  | _ => rfl

theorem Agree.wanted {S : Nat → Prop} {a b : Act} (h : Agree S a b) {o : Oper} (hd : ∀ d ∈ o.looksAt ops, ¬ S d) : Region.wanted o (yielded ops a.tmps) = Region.wanted o (yielded ops b.tmps) := by
  unfold Region.wanted
  cases hg : o.guard with
  | none => rfl
  | some gw =>
    obtain ⟨g, want⟩ := gw
    have hy : yielded ops a.tmps g = yielded ops b.tmps g := by
      unfold yielded
      cases ht : (ops[g]?).bind (·.dst) with
      | none => rfl
      | some t =>
        have : t ∈ o.looksAt ops := by simp [Oper.looksAt, hg, ht]
        simp only [Option.bind_some, h.each t (hd t this)]
    simp only [hy]

theorem Agree.same {a b : Act} (h : Agree (fun _ => False) a b) : a = b := by
  obtain ⟨t, d⟩ := a
  obtain ⟨t', d'⟩ := b
  have h1 := h.defers
  simp only at h1
  subst h1
  have : t = t' := by
    apply Array.ext h.size
    intro i hi hi'
    have := h.each i (fun h => h)
    simp only [Array.getElem?_eq_getElem hi, Array.getElem?_eq_getElem hi', Option.some.injEq] at this
    exact this
  subst this
  rfl

variable {P : Program} {R : Ref} {σ : Ren}

structure Early1 (P : Program) (ops : Array Oper) (R : Ref) (σ : Ren) (L : Array Bool) (a : Act) (w : World) (q g : Nat) (oq : Oper) (d : Tmp) (ob : Obj) (sh : Shape) : Prop where
  op : ops[q]? = some oq
  dst : oq.dst = some d
  after : ∀ e ∈ oq.after, Region.binds .any e = true → L.getD e.on false = true
  run : ∀ w1 : World, (execOp a.eval oq).run P w1 = .ok (.value (shapeV sh w1.heap.size)) (w1.alloc ob)
  tmp : d < a.tmps.size → a.tmps[d]? = some (shapeV sh g)
  lies : w.heap[g]? = some ob
  mine : R.mine g
  out : ∀ i e, σ.ent i = some e → e.blk ≠ g

def Early (P : Program) (ops : Array Oper) (R : Ref) (σ : Ren) (L : Array Bool) (a : Act) (w : World) (x : Nat × Nat) : Prop := ∃ oq d ob sh, Early1 P ops R σ L a w x.1 x.2 oq d ob sh

theorem Early.keep {L : Array Bool} {a : Act} {w w' : World} {x : Nat × Nat} (h : Early P ops R σ L a w x) (hsel : ∀ (j : Nat) (o : Oper) cs b, ops[j]? = some o → o.op ≠ .select cs b) {i : Nat} {dst : Option Tmp} (hun : L.getD i true = false)
    (h1 : ∀ oq, ops[x.1]? = some oq → (∀ d, oq.dst = some d → dst ≠ some d) ∧ ∀ d, dst = some d → d ∉ oq.looksAt ops ∨ Waits oq i) (v : Value) (hw : w'.heap[x.2]? = w.heap[x.2]?) {σ' : Ren} (ho : ∀ i e, σ'.ent i = some e → e.blk ≠ x.2) :
    Early P ops R σ' (L.setIfInBounds i true) (a.put dst v) w' x := by
  obtain ⟨oq, d, ob, sh, he⟩ := h
  obtain ⟨h2, h3⟩ := h1 oq he.op
  refine ⟨oq, d, ob, sh, he.op, he.dst, fun e hh hb => getD_set_true (he.after e hh hb), fun w1 => ?_, ?_, hw.trans he.lies, he.mine, ho⟩
  · rw [execOp_put (ops := ops) oq (fun cs b => hsel _ oq cs b he.op) a dst v fun d' hd' => ?_]
    · exact he.run w1
    · rcases h3 d' hd' with h | ⟨e, hh, hb, rfl⟩
      · exact h
      · have := he.after e hh hb
        rw [(getD_false hun).2] at this; cases this
  · have := h2 d he.dst
    cases dst with
    | none => exact he.tmp
    | some d' =>
      have hne : d' ≠ d := fun e => this (by rw [e])
      simp only [Act.put, Array.getElem?_setIfInBounds_ne hne, Array.size_setIfInBounds]
      exact he.tmp

def dsts (ops : Array Oper) (E : List (Nat × Nat)) (d : Nat) : Prop := ∃ x ∈ E, ∃ o, ops[x.1]? = some o ∧ o.dst = some d

/-! ### The world to look back to, anew -/

def Ref.now (σ : Ren) (w : World) : Ref := ⟨w, fun k => ∃ i e, σ.ent i = some e ∧ e.blk = k⟩

theorem WR.now {m : AM} {w : World} (h : WR R σ m w) : WR (Ref.now σ w) σ m w :=
  ⟨⟨rfl, rfl, rfl, Nat.le_refl _, fun _ _ _ => rfl, Nat.le_refl _⟩, h.pos, fun i e he => ⟨(h.ent i e he).1, (h.ent i e he).2.1, .inl ⟨i, e, he, rfl⟩, (h.ent i e he).2.2.2⟩, h.obj, h.inj⟩

theorem WR.back {m m' : AM} {w w' : World} (h : WR R σ m w) {σ' : Ren} (h' : WR (Ref.now σ w) σ' m' w') : WR R σ' m' w' := by
  have hk : ∀ k, (Ref.now σ w).mine k → R.mine k := by
    intro k hk
    rcases hk with ⟨i, e, he, rfl⟩ | hk
    · exact (h.ent i e he).2.2.1
    · exact .inr (Nat.le_trans h.below.size hk)
  refine ⟨⟨h'.below.os.trans h.below.os, h'.below.tape.trans h.below.tape, h'.below.output.trans h.below.output, Nat.le_trans h.below.size h'.below.size, fun k hk1 hk2 => ?_, Nat.le_trans h.below.drawn h'.below.drawn⟩, h'.pos, fun i e he => ?_, h'.obj, h'.inj⟩
  · have hlt : k < w.heap.size := Nat.lt_of_lt_of_le hk1 h.below.size
    have : ¬ (Ref.now σ w).K k := by
      rintro ⟨i, e, he, rfl⟩
      rcases (h.ent i e he).2.2.1 with h3 | h3
      · exact hk2 h3
      · omega
    exact (h'.below.block k hlt this).trans (h.below.block k hk1 hk2)
  · obtain ⟨g1, g2, g3, g4⟩ := h'.ent i e he
    exact ⟨g1, g2, hk _ g3, g4⟩

theorem WR.kept {m' : AM} {w w' : World} {σ' : Ren} (h' : WR (Ref.now σ w) σ' m' w') {g : Nat} (hg : g < w.heap.size) (ho : ∀ i e, σ.ent i = some e → e.blk ≠ g) : w'.heap[g]? = w.heap[g]? ∧ ∀ i e, σ'.ent i = some e → e.blk ≠ g := by
  refine ⟨h'.below.block g hg fun ⟨i, e, he, hb⟩ => ho i e he hb, fun i e he hb => ?_⟩
  rcases (h'.ent i e he).2.2.1 with ⟨j, e', h1, h2⟩ | h3
  · exact ho j e' h1 (h2.trans hb)
  · have : w.heap.size ≤ g := by rw [← hb]; exact h3
    omega

theorem WR.unknown {m : AM} {w : World} (h : WR R σ m w) (o : Obj) : WR R σ m (w.alloc o) := by
  refine ⟨h.below.alloc o, h.pos, fun i e he => ?_, fun i x hx => ?_, h.inj⟩
  · obtain ⟨g1, g2, g3, g4⟩ := h.ent i e he
    exact ⟨g1, g2, g3, by simp; omega⟩
  · obtain ⟨e, o', h1, h2, h3⟩ := h.obj i x hx
    exact ⟨e, o', h1, (Below.heap_alloc w o _ (h.ent i e h1).2.2.2).trans h2, h3⟩
end

theorem len_le_of_sub : ∀ (l k : List Nat), l.Nodup → (∀ x ∈ l, x ∈ k) → l.length ≤ k.length
  | [], _, _, _ => Nat.zero_le _
  | x :: l, k, hn, h => by
    obtain ⟨h1, h2⟩ := List.nodup_cons.1 hn
    have hx := h x (by simp)
    have := len_le_of_sub l (k.erase x) h2 fun y hy => (List.mem_erase_of_ne (fun e => h1 (by rw [← e]; exact hy))).2 (h y (by simp [hy]))
    rw [List.length_erase_of_mem hx] at this
    have : 0 < k.length := List.length_pos_of_mem hx
    simp only [List.length_cons]
    omega

theorem freshOf_len : ∀ (p : DPlan), (freshOf p).length ≤ p.length
  | [] => Nat.le_refl _
  | p :: r => by
    have := freshOf_len r
    rw [freshOf_cons]
    split <;> simp only [List.length_cons] <;> omega

theorem okP_nodup {n : Nat} : ∀ (plan : DPlan) (L : Nat), okP n plan L = true → (plan.map (·.i)).Nodup
  | [], _, _ => by simp
  | p :: r, L, h => by
    have h' := h
    simp only [okP, Bool.and_eq_true] at h
    refine List.nodup_cons.2 ⟨fun hm => ?_, okP_nodup r _ h.2⟩
    obtain ⟨q, hq, he⟩ := List.mem_map.1 hm
    have := okP_un r _ h.2 q hq
    rw [bit_lor, bit_of, he] at this
    simp at this

theorem plan_len {P : Program} {ops : Array Oper} (h : okP ops.size (planOf P ops) 0 = true) (hp : ∀ p ∈ planOf P ops, p.i < ops.size) : (planOf P ops).length ≤ ops.size := by
  have := len_le_of_sub ((planOf P ops).map (·.i)) (List.range ops.size) (okP_nodup _ _ h) (fun x hx => by
    obtain ⟨p, hq, rfl⟩ := List.mem_map.1 hx
    exact List.mem_range.2 (hp p hq))
  simpa using this
end Go.Proofs.Ytfghccppoilfhaa
