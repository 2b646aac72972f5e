/-
  The same: a region that draws its order, where calls, stores and new memory stand beside one another: whichever order is picked. No condition.
-/
import Derived.Test.YtfghccppoilfhaaCeH
import Derived.OrdersHeld
namespace Go.Proofs.Ytfghccppoilfhaa
open Go.RowKit

section
variable {P : Program} {ops : Array Oper} {Q : Exit → Act → World → Prop}

def wpAnyJ (P : Program) (ops : Array Oper) (Q : Exit → Act → World → Prop) (T : Nat → World → World → Prop) : Nat → Array Bool → Act → World → Prop
  | 0, listed, a, w => Region.ready .any ops listed = [] ∧ Q .normal a w
  | fuel + 1, listed, a, w =>
    (Region.ready .any ops listed = [] → Q .normal a w) ∧
    ∀ i ∈ Region.ready .any ops listed, wpOp P ops Q i (fun a' w' => T i w w' ∧ wpAnyJ P ops Q T fuel (listed.setIfInBounds i true) a' w') a w

theorem wpAny_of_J {T : Nat → World → World → Prop} : ∀ (fuel : Nat) (listed : Array Bool) (a : Act) (w : World), wpAnyJ P ops Q T fuel listed a w → wpAny P .any ops Q fuel listed a w
  | 0, _, _, _, h => h
  | fuel + 1, _, _, _, h => ⟨h.1, fun i hi => wpOp_mono (fun a' w' h' => wpAny_of_J fuel _ a' w' h'.2) (h.2 i hi)⟩

def unrelated (ops : Array Oper) (i j : Nat) : Bool :=
  match ops[i]?, ops[j]? with
  | some x, some y => !(x.after.any fun e => Region.binds .any e && e.on == j) && !(y.after.any fun e => Region.binds .any e && e.on == i)
  | _, _ => false

theorem unrelated_of_ready {i j : Nat} {oi oj : Oper} {listed : Array Bool} (hi : ops[i]? = some oi) (hj : ops[j]? = some oj) (hri : i ∈ Region.ready .any ops listed) (hrj : j ∈ Region.ready .any ops listed) : unrelated ops i j = true := by
  have key : ∀ {i j : Nat} {oi : Oper}, ops[i]? = some oi → i ∈ Region.ready .any ops listed → j ∈ Region.ready .any ops listed → (oi.after.any fun e => Region.binds .any e && e.on == j) = false := by
    intro i j oi hi hri hrj
    rw [Array.any_eq_false']
    intro e he hc
    simp only [Bool.and_eq_true, beq_iff_eq] at hc
    obtain ⟨_, o, ho, hall⟩ := mem_ready.1 hri
    rw [hi] at ho; injection ho with ho; subst ho
    have h1 := hall e he hc.1
    have h0 := (mem_ready.1 hrj).1
    rw [hc.2] at h1
    rcases Nat.lt_or_ge j listed.size with h' | h'
    · simp [h'] at h0 h1; rw [h0] at h1; cases h1
    · simp [Array.getElem?_eq_none h'] at h1
  unfold unrelated
  rw [hi, hj]
  simp only [key hi hri hrj, key hj hrj hri, Bool.not_false, Bool.and_self]

theorem wpAnyJ_first {T : Nat → World → World → Prop} {i : Nat} {oi : Oper} {v : Value} {Y : World → Prop} (hi : ops[i]? = some oi) (hsel : ∀ (j : Nat) (o : Oper) cs b, ops[j]? = some o → o.op ≠ .select cs b)
    (hQ : ∀ c a w, Q (.panic c) (a.put oi.dst v) w → Q (.panic c) a w) (hT : ∀ j w w', unrelated ops i j = true → T j w w' → Y w → Y w') (hTi : ∀ w, T i w w) :
    ∀ (fuel : Nat) (listed : Array Bool) (a : Act) (w : World),
      (∀ j oj, ops[j]? = some oj → j ≠ i → listed.getD j true = false → (∀ e ∈ oj.after, Region.binds .any e = true → e.on ≠ i) → oi.apart ops oj = true) →
      i ∈ Region.ready .any ops listed → YieldsIf P ops Y oi v a → Y w →
      wpAnyJ P ops Q T fuel (listed.setIfInBounds i true) (a.put oi.dst v) w → wpAnyJ P ops Q T (fuel + 1) listed a w := by
  intro fuel
  induction fuel with
  | zero =>
    intro listed a w _ hr hy hY H
    refine ⟨fun h => (by rw [h] at hr; cases hr), fun j hj => ?_⟩
    by_cases hji : j = i
    · subst hji; exact hy.wpOp hi hY ⟨hTi w, H⟩
    · have := ready_mono hj hji
      rw [H.1] at this
      cases this
  | succ fuel ih =>
    intro listed a w hfree hr hy hY H
    refine ⟨fun h => (by rw [h] at hr; cases hr), fun j hj => ?_⟩
    by_cases hji : j = i
    · subst hji; exact hy.wpOp hi hY ⟨hTi w, H⟩
    · have h1 := H.2 j (ready_mono hj hji)
      obtain ⟨hjun, oj, hoj, hall⟩ := mem_ready.1 hj
      have hun := unrelated_of_ready hi hoj hr hj
      have hnot : ∀ e ∈ oj.after, Region.binds .any e = true → e.on ≠ i := fun e he hb heq => by
        have h1 := hall e he hb
        have h0 := (mem_ready.1 hr).1
        rw [heq] at h1
        rcases Nat.lt_or_ge i listed.size with h' | h'
        · simp [h'] at h0 h1; rw [h0] at h1; cases h1
        · simp [Array.getElem?_eq_none h'] at h1
      have h2 := wpOp_putIf hoj (hfree j oj hoj hji hjun hnot) (fun cs b => hsel i oi cs b hi) (fun cs b => hsel j oj cs b hoj) hQ hy h1
      have hfree' : ∀ k ok, ops[k]? = some ok → k ≠ i → (listed.setIfInBounds j true).getD k true = false →
          (∀ e ∈ ok.after, Region.binds .any e = true → e.on ≠ i) → oi.apart ops ok = true := fun k ok hk hki hun hno => by
        refine hfree k ok hk hki ?_ hno
        by_cases hjk : j = k
        · subst hjk; exact hjun
        · rw [getD_set_ne true hjk] at hun; exact hun
      refine wpOp_mono (fun a' w' h3 => ⟨h3.2.1, ih (listed.setIfInBounds j true) a' w' hfree' (ready_mono hr (Ne.symm hji)) h3.1 (hT j w w' hun h3.2.1 hY) ?_⟩) h2
      rw [Array.setIfInBounds_comm _ _ hji]
      exact h3.2.2

/-! ### New memory -/

inductive Shape where
  | ptr
  | slc (len cap : Nat)
  | mp

def shapeV : Shape → Nat → Value
  | .ptr, b => .pointer (some ⟨b, 0, none⟩)
  | .slc l c, b => .slice (some ⟨b, 0, none⟩) l c
  | .mp, b => .map (some b)

def absAlloc (P : Program) (ρ : Operand → Value) (o : Oper) : Option (Obj × Shape) :=
  match o.op with
  | .alloc t => match peel P (zeroValue t) with
    | some z => if pureD 8 z = true then some (.cells z.cells t, .ptr) else none
    | none => none
  | .box t x => if okx x = true then some (.cells (ρ x).cells t, .ptr) else none
  | .buildSlice t len ps => if okParts ps.toList = true then match P.underlying t with
    | some (.slice elem) => match P.info? elem with
      | some i => match i.zero with
        | some z => if len * i.size ≤ 16777216 ∧ len ≤ 16777216 ∧ 0 < len * i.size ∧ elem < P.types.size then
            (match Instr.fill (fun k => some (k * i.size, i.size)) ((Array.range (len * i.size)).map (z.cells[· % z.cells.size]!)) (ps.toList.map fun x => (x.1, ρ x.2)) with
            | some cells => some (.cells cells elem, .slc len len)
            | none => none) else none
        | none => none
      | none => none
    | _ => none else none
  | .makeSlice t l c => if okx l = true ∧ okx c = true then match P.underlying t, ρ l, ρ c with
    | some (.slice elem), .int _ l, .int _ c => match P.info? elem with
      | some i => match i.zero with
        | some z => if 0 ≤ l ∧ l ≤ c ∧ (i.bytes : Int) * c ≤ 281474976710656 ∧ c ≤ 9223372036854775807 ∧ elem < P.types.size then
            some (.cells (madeCells z.cells (c.toNat * i.size)) elem, .slc l.toNat c.toNat) else none
        | none => none
      | none => none
    | _, _, _ => none else none
  | .makeMap _ r => if r.isNone = true then some (.map #[] 0, .mp) else none
  | _ => none
end

inductive RelNew (σ : Ren) : Obj → Obj → Prop where
  | cells {c c' : Array Value} (el : TypeId) (h : RelVs σ c c') : RelNew σ (.cells c el) (.cells c' el)
  | map : RelNew σ (.map #[] 0) (.map #[] 0)

section
variable {P : Program} {W : Ref} {σ : Ren}

theorem shape_rel {sh : Shape} {b : Nat} {e : Ent} (he : σ.ent b = some e) (h0 : e.sh = 0) (hc : ∀ l c, sh = .slc l c → c < capU) : RelV σ (shapeV sh b) (shapeV sh e.blk) := by
  have ha : RelA σ ⟨b, 0, none⟩ ⟨e.blk, 0, none⟩ := ⟨e, he, rfl, by simp [h0]⟩
  cases sh with
  | ptr => exact ha.ptr
  | slc l c => exact ha.slice l c (hc l c rfl)
  | mp => exact .map he

theorem shapeV_inj {s s' : Shape} {b : Nat} (h : shapeV s b = shapeV s' b) : s = s' := by
  cases s <;> cases s' <;> simp [shapeV] at h <;> first | rfl | (obtain ⟨rfl, rfl⟩ := h; rfl)

theorem WR.adopt {m : AM} {w : World} (h : WR W σ m w) {o o' : Obj} (g : Nat) (hg : w.heap[g]? = some o') (hm : W.mine g) (hf : ∀ i e, σ.ent i = some e → e.blk ≠ g) (ho : RelNew σ o o') :
    ∃ σ' e, Ext σ σ' ∧ WR W σ' (m.push o) w ∧ σ'.ent m.next = some e ∧ e.blk = g ∧ e.sh = 0 ∧ ∀ i e', σ'.ent i = some e' → e'.blk = g ∨ σ.ent i = some e' := by
  have hlt : g < w.heap.size := by
    rcases Nat.lt_or_ge g w.heap.size with h' | h'
    · exact h'
    · rw [Array.getElem?_eq_none h'] at hg; cases hg
  have hsz : ∃ n, ∀ c el f, o' = .cells c el f → n = c.size := by
    cases o' with
    | cells c el f => exact ⟨c.size, fun c' el' f' h => by injection h with h; rw [h]⟩
    | _ => exact ⟨0, fun c' el' f' h => by cases h⟩
  obtain ⟨n, hn⟩ := hsz
  let e : Ent := ⟨g, 0, n, 0⟩
  have hx := Ren.add_ext h.fresh e
  refine ⟨σ.add m.next e, e, hx, ⟨h.below, Nat.succ_pos _, ?_, ?_, ?_⟩, by simp only [Ren.add, if_true], rfl, rfl, ?_⟩
  · intro i e' hi
    simp only [Ren.add] at hi
    split at hi
    · injection hi with hi; subst hi
      rename_i hi'; subst hi'
      exact ⟨h.pos, Nat.lt_succ_self _, hm, hlt⟩
    · obtain ⟨g1, g2, g3, g4⟩ := h.ent i e' hi
      exact ⟨g1, Nat.lt_succ_of_lt g2, g3, g4⟩
  · intro i x hi
    rcases Tr.get_of_set (show Tr.get deep _ i = some x from hi) with ⟨rfl, hx'⟩ | ⟨hne, hi'⟩
    · injection hx' with hx'; subst hx'
      refine ⟨e, o', by simp only [Ren.add, if_true], hg, ?_⟩
      cases ho with
      | cells el hc =>
        rename_i c c'
        have hn' : n = c'.size := hn _ _ _ rfl
        refine .cells el hn'.symm (fun j _ h1 h2 => by simp at h2) (fun j v hv => ?_) (fun _ => ⟨hc.size.symm, rfl, rfl⟩) (fun h => absurd rfl h)
        obtain ⟨v', g1, g2⟩ := hc.get hv
        exact ⟨v', g1, g2.ext hx⟩
      | map => exact .map 0 rfl fun i x x' h => by simp at h
    · obtain ⟨e1, o1, h1, h2, h3⟩ := h.obj i x hi'
      exact ⟨e1, o1, hx.ent _ _ h1, h2, h3.ext hx⟩
  · intro i j x y ei ej hi hj hei hej hblk
    simp only [Ren.add] at hei hej
    rcases Tr.get_of_set (show Tr.get deep _ i = some x from hi) with ⟨rfl, _⟩ | ⟨hne, hi'⟩ <;> rcases Tr.get_of_set (show Tr.get deep _ j = some y from hj) with ⟨rfl, _⟩ | ⟨hne', hj'⟩
    · rfl
    · simp only [if_true, Option.some.injEq] at hei
      subst hei
      rw [if_neg (Ne.symm hne')] at hej
      exact absurd hblk.symm (hf j ej hej)
    · simp only [if_true, Option.some.injEq] at hej
      subst hej
      rw [if_neg (Ne.symm hne)] at hei
      exact absurd hblk (hf i ei hei)
    · rw [if_neg (Ne.symm hne)] at hei
      rw [if_neg (Ne.symm hne')] at hej
      exact h.inj i j x y ei ej hi' hj' hei hej hblk
  · intro i e' hi
    simp only [Ren.add] at hi
    split at hi
    · injection hi with hi; left; rw [← hi]
    · exact .inr hi

theorem absAlloc_sound (hz : zerosOk P = true) {ρ ρ' : Operand → Value} (hE : RelE σ ρ ρ') {o : Oper} {obj : Obj} {sh : Shape} (h : absAlloc P ρ o = some (obj, sh)) :
    ∃ obj', RelNew σ obj obj' ∧ (∀ l c, sh = .slc l c → c < capU) ∧ ∀ w : World, (execOp ρ' o).run P w = .ok (.value (shapeV sh w.heap.size)) (w.alloc obj') := by
  obtain ⟨dst, op, ty, pos, after, guard⟩ := o
  unfold absAlloc at h
  unfold execOp
  cases op with
  | alloc t =>
    simp only at h ⊢
    split at h
    · rename_i z hzz
      split at h
      · rename_i hp
        injection h with h; injection h with h1 h2; subst h1 h2
        refine ⟨_, .cells t (RelVs.cells (pure_rel 8 z hp)), fun l c hh => (by cases hh), fun w => ?_⟩
        simp only [Instr.alloc, Sem.run_bind, peel_run hzz, Result.andThen_ok, Go.newVar, newRow_run, Sem.run_pure]
        rfl
      · cases h
    · cases h
  | box t x =>
    simp only at h ⊢
    split at h
    · rename_i hx
      injection h with h; injection h with h1 h2; subst h1 h2
      refine ⟨_, .cells t (RelVs.cells (hE x hx)), fun l c hh => (by cases hh), fun w => ?_⟩
      simp only [Instr.box, Sem.run_bind, Go.newVar, newRow_run, Result.andThen_ok, Sem.run_pure]
      rfl
    · cases h
  | buildSlice t len ps =>
    simp only at h ⊢
    split at h
    · rename_i hok
      split at h
      · rename_i elem ht
        split at h
        · rename_i i hi
          split at h
          · rename_i z hzz
            split at h
            · rename_i hq
              obtain ⟨q1, q2, q3, q4⟩ := hq
              split at h
              · rename_i cells hf
                injection h with h; injection h with h1 h2; subst h1 h2
                have hpu := zeros_pure hz q4 hi hzz
                have hp := okParts_rel hE _ hok
                rcases rel_fill (σ := σ) (fun k => some (k * i.size, i.size)) _ _ _ _ hp (RelVs.made (pure_cells hpu) (len * i.size) z.cells.size) with ⟨r, r', h1, h2, h3⟩ | h1
                · rw [hf] at h1; injection h1 with h1; subst h1
                  refine ⟨_, .cells elem h3, fun l c hh => (by cases hh; unfold capU; omega), fun w => ?_⟩
                  have n1 : ¬ (16777216 < len * i.size) := by omega
                  have n2 : ¬ (len * i.size = 0) := by omega
                  have e1 : (ps.map fun x => (x.1, ρ' x.2)).toList = ps.toList.map fun x => (x.1, ρ' x.2) := by simp
                  have h2' : Instr.fill (fun k => some (k * i.size, i.size)) ((Array.range (len * i.size)).map (z.cells[· % z.cells.size]!)) (ps.map fun x => (x.1, ρ' x.2)).toList = some r' := by rw [e1]; exact h2
                  simp only [Array.toList_map] at h2'
                  simp [Instr.buildSlice, run_underlying ht, Go.sizeOf, typeInfo, hi, n2, zeroValue, hzz, n1, h2', newRow_run]
                  rfl
                · rw [hf] at h1; cases h1
              · cases h
            · cases h
          · cases h
        · cases h
      · cases h
    · cases h
  | makeSlice t l c =>
    simp only at h ⊢
    split at h
    · rename_i hok
      have hl := hE l hok.1
      have hc := hE c hok.2
      split at h
      · rename_i elem kl n kc k ht hln hck
        rw [hln] at hl; rw [hck] at hc
        split at h
        · rename_i i hi
          split at h
          · rename_i z hzz
            split at h
            · rename_i hq
              obtain ⟨q1, q2, q3, q4, q5⟩ := hq
              injection h with h; injection h with h1 h2; subst h1 h2
              have hp := zeros_pure hz q5 hi hzz
              generalize ρ' l = l' at hl
              generalize ρ' c = c' at hc
              cases hl; cases hc
              refine ⟨_, .cells elem (RelVs.made (pure_cells hp) (k.toNat * i.size) z.cells.size), fun l c hh => (by cases hh; unfold capU; omega), fun w => ?_⟩
              simp only [Sem.run_bind, run_make w t elem i z ht hi hzz kl kc n k q1 q2 q3 q4, Result.andThen_ok, Sem.run_pure]
              rfl
            · cases h
          · cases h
        · cases h
      · cases h
    · cases h
  | makeMap t r =>
    simp only at h ⊢
    split at h
    · rename_i hr
      injection h with h; injection h with h1 h2; subst h1 h2
      cases r with
      | some _ => cases hr
      | none => exact ⟨_, .map, fun l c hh => (by cases hh), fun w => rfl⟩
    · cases h
  | _ => simp only at h; cases h
end
end Go.Proofs.Ytfghccppoilfhaa
