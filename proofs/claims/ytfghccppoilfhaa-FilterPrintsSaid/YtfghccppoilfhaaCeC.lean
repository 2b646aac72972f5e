/-
  The same, part 3: each operation of the model, run on both. No condition but that the types' zero values bear no address.
-/
import Derived.Test.YtfghccppoilfhaaCeB
namespace Go.Proofs.Ytfghccppoilfhaa
open Go.RowKit

section
variable {P : Program} {W : Ref} {σ : Ren}

theorem RelVs.nil : RelVs σ #[] #[] := ⟨rfl, fun i v v' h _ => by simp at h⟩
theorem RelVs.push {c c' : Array Value} (h : RelVs σ c c') {v v' : Value} (hv : RelV σ v v') : RelVs σ (c.push v) (c'.push v') := by
  refine ⟨by simp [h.size], fun i x x' hx hx' => ?_⟩
  have hs := h.size
  rw [Array.getElem?_push] at hx hx'
  by_cases hi : i = c.size
  · rw [if_pos hi] at hx
    rw [if_pos (by omega)] at hx'
    injection hx with hx; injection hx' with hx'; subst hx hx'; exact hv
  · rw [if_neg hi] at hx
    rw [if_neg (by omega)] at hx'
    exact h.each i x x' hx hx'
theorem RelVs.one {v v' : Value} (hv : RelV σ v v') : RelVs σ #[v] #[v'] := by
  have := (RelVs.nil (σ := σ)).push hv
  simpa using this
theorem RelVs.get {c c' : Array Value} (h : RelVs σ c c') {i : Nat} {v : Value} (hv : c[i]? = some v) : ∃ v', c'[i]? = some v' ∧ RelV σ v v' := by
  have h1 := (Array.getElem?_eq_some_iff.1 hv).1
  have hi : i < c'.size := by have := h.size; omega
  exact ⟨c'[i], Array.getElem?_eq_getElem hi, h.each i v _ hv (Array.getElem?_eq_getElem hi)⟩
theorem RelVs.extract {c c' : Array Value} (h : RelVs σ c c') (i j : Nat) : RelVs σ (c.extract i j) (c'.extract i j) := by
  have hs := h.size
  refine ⟨by simp [hs], fun k v v' hv hv' => ?_⟩
  rw [Array.getElem?_extract] at hv hv'
  split at hv
  · rename_i hk
    rw [if_pos (by omega)] at hv'
    exact h.each _ v v' hv hv'
  · cases hv
theorem RelVs.set {c c' : Array Value} (h : RelVs σ c c') (i : Nat) {v v' : Value} (hv : RelV σ v v') : RelVs σ (c.setIfInBounds i v) (c'.setIfInBounds i v') := by
  have hs := h.size
  refine ⟨by simp [hs], fun k x x' hx hx' => ?_⟩
  rcases getElem?_set_of hx with ⟨rfl, rfl⟩ | ⟨hne, hx⟩
  · rcases getElem?_set_of hx' with ⟨_, rfl⟩ | ⟨hne, _⟩
    · exact hv
    · exact absurd rfl hne
  · rcases getElem?_set_of hx' with ⟨rfl, rfl⟩ | ⟨_, hx'⟩
    · exact absurd rfl hne
    · exact h.each k x x' hx hx'

theorem RelVs.cells {v v' : Value} (h : RelV σ v v') : RelVs σ v.cells v'.cells := by
  cases h with
  | agg hc hc' => exact ⟨hc, hc'⟩
  | token i =>
    have h1 := σ.one i
    have : (σ.env i).cells = #[σ.env i] := by
      unfold Value.cells
      split
      · rename_i cs he; rw [he] at h1; simp [Value.oneCell'] at h1
      · rfl
    rw [this]
    exact RelVs.one (.token i)
  | any h1 =>
    have : v'.cells = #[v'] := by
      unfold Value.cells
      split
      · simp [Value.oneCell'] at h1
      · rfl
    rw [this]
    exact RelVs.one (.any h1)
  | bool b => exact RelVs.one (.bool b)
  | int k n => exact RelVs.one (.int k n)
  | string s => exact RelVs.one (.string s)
  | nilPtr => exact RelVs.one .nilPtr
  | ptr h => exact RelVs.one (.ptr h)
  | nilSlice l c => exact RelVs.one (.nilSlice l c)
  | slice l c c' h hc hu => exact RelVs.one (.slice l c c' h hc hu)
  | empty c c' a hc => exact RelVs.one (.empty c c' a hc)
  | tail c' a h hz hr => exact RelVs.one (.tail c' a h hz hr)
  | nilMap => exact RelVs.one .nilMap
  | map h => exact RelVs.one (.map h)
  | func fn hf hc hf' hc' => exact RelVs.one (.func fn hf hc hf' hc')
  | nilFunc => exact RelVs.one .nilFunc
  | iface t h => exact RelVs.one (.iface t h)
  | nilIface => exact RelVs.one .nilIface
  | tuple hc hc' => exact RelVs.one (.tuple hc hc')

theorem RelVs.mkAgg {c c' : Array Value} (h : RelVs σ c c') : RelV σ (.agg c) (.agg c') := .agg h.size h.each
theorem RelVs.mkTuple {c c' : Array Value} (h : RelVs σ c c') : RelV σ (.tuple c) (.tuple c') := .tuple h.size h.each

structure RelL (σ : Ren) (l l' : List Value) : Prop where
  size : l.length = l'.length
  each : ∀ (i : Nat) (v v' : Value), l[i]? = some v → l'[i]? = some v' → RelV σ v v'

theorem RelVs.toL {c c' : Array Value} (h : RelVs σ c c') : RelL σ c.toList c'.toList := ⟨by simpa using h.size, fun i v v' a b => h.each i v v' (by simpa using a) (by simpa using b)⟩
theorem RelL.ext {σ' : Ren} (hx : Ext σ σ') {c c' : List Value} (h : RelL σ c c') : RelL σ' c c' := ⟨h.size, fun i v v' a b => (h.each i v v' a b).ext hx⟩
theorem RelL.cons_inv {v v' : Value} {l l' : List Value} (h : RelL σ (v :: l) (v' :: l')) : RelV σ v v' ∧ RelL σ l l' :=
  ⟨h.each 0 v v' rfl rfl, ⟨by simpa using h.size, fun i a b ha hb => h.each (i + 1) a b (by simpa using ha) (by simpa using hb)⟩⟩
theorem RelL.append {a a' b b' : List Value} (h : RelL σ a a') (k : RelL σ b b') : RelL σ (a ++ b) (a' ++ b') := by
  have hs := h.size
  refine ⟨by simp [h.size, k.size], fun i v v' hv hv' => ?_⟩
  rw [List.getElem?_append] at hv hv'
  split at hv
  · rw [if_pos (by omega)] at hv'; exact h.each i v v' hv hv'
  · rw [if_neg (by omega), ← hs] at hv'; exact k.each _ v v' hv hv'
theorem RelL.toVs {c c' : List Value} (h : RelL σ c c') : RelVs σ c.toArray c'.toArray := ⟨by simpa using h.size, fun i v v' a b => h.each i v v' (by simpa using a) (by simpa using b)⟩

theorem Sim.loadCellsFrom {a a' : Addr} : ∀ (n : Nat) (σ : Ren) (i : Nat) (acc acc' : Array Value), RelA σ a a' → RelVs σ acc acc' → Sim P W σ (Go.loadCellsFrom a i n acc) (Go.loadCellsFrom a' i n acc') RelVs := by
  intro n
  induction n with
  | zero => intro σ i acc acc' _ h; exact Sim.pure h
  | succ n ih =>
    intro σ i acc acc' ha h
    unfold Go.loadCellsFrom
    exact Sim.bind (Sim.load (ha.add i)) fun σ' v v' hx hv => ih σ' (i + 1) _ _ (ha.ext hx) ((h.ext hx).push hv)

theorem Sim.loadCells {a a' : Addr} (ha : RelA σ a a') (n : Nat) : Sim P W σ (Go.loadCells a n) (Go.loadCells a' n) RelVs := Sim.loadCellsFrom n σ 0 _ _ ha RelVs.nil

theorem Sim.storeCells {a a' : Addr} : ∀ (l l' : List Value) (σ : Ren) (i : Nat), RelA σ a a' → RelL σ l l' → Sim P W σ (Go.storeCells a l i) (Go.storeCells a' l' i) fun _ _ _ => True := by
  intro l
  induction l with
  | nil =>
    intro l' σ i ha h
    have hl : l' = [] := List.eq_nil_of_length_eq_zero h.size.symm
    subst hl
    exact Sim.pure trivial
  | cons v l ih =>
    intro l' σ i ha h
    cases l' with
    | nil => have := h.size; simp at this
    | cons v' l' =>
      obtain ⟨h1, h2⟩ := h.cons_inv
      unfold Go.storeCells
      exact Sim.bind (Sim.store (ha.add i) h1) fun σ' _ _ hx _ => ih l' σ' (i + 1) (ha.ext hx) (h2.ext hx)

theorem Sim.loadVar {a a' : Addr} (ha : RelA σ a a') (t : TypeId) : Sim P W σ (Go.loadVar t a) (Go.loadVar t a') RelV := by
  unfold Go.loadVar
  refine Sim.bind Sim.isAgg fun σ' b b' hx hb => ?_
  subst hb
  cases b
  · exact Sim.load (ha.ext hx)
  · refine Sim.bind Sim.sizeOf fun σ2 n n' hx2 hn => ?_
    subst hn
    exact Sim.bind (Sim.loadCells ((ha.ext hx).ext hx2) n) fun σ3 c c' _ hc => Sim.pure hc.mkAgg

theorem Sim.storeVar {a a' : Addr} (ha : RelA σ a a') (t : TypeId) {v v' : Value} (hv : RelV σ v v') : Sim P W σ (Go.storeVar t a v) (Go.storeVar t a' v') fun _ _ _ => True := by
  unfold Go.storeVar
  refine Sim.bind Sim.sizeOf fun σ' n n' hx hn => ?_
  subst hn
  have hs := (RelVs.cells hv).size
  by_cases hc : v.cells.size ≠ n
  · rw [if_pos hc]; exact Sim.none fun m => rfl
  · rw [if_neg hc, if_neg (by omega)]
    exact Sim.storeCells _ _ _ 0 (ha.ext hx) ((RelVs.cells hv).toL.ext hx)

theorem Sim.newRow {c c' : Array Value} (hc : RelVs σ c c') (el : TypeId) : Sim P W σ (Go.newRow el c) (Go.newRow el c') RelA := by
  unfold Go.newRow
  refine Sim.bind (Sim.newCells hc el) fun σ' r r' hx h => ?_
  obtain ⟨e, h1, h2, h3⟩ := h
  exact Sim.pure ⟨e, h1, rfl, by simp [h2, h3]⟩

theorem Sim.newVar {v v' : Value} (hv : RelV σ v v') (t : TypeId) : Sim P W σ (Go.newVar t v) (Go.newVar t v') RelA := Sim.newRow (RelVs.cells hv) t

theorem RelA.ptr {a a' : Addr} (h : RelA σ a a') : RelV σ (.pointer (some a)) (.pointer (some a')) := by
  obtain ⟨e, h1, h2, rfl⟩ := h
  obtain ⟨b, o, s⟩ := a
  simp only at h2; subst h2
  exact .ptr h1

theorem RelV.addr {a : Addr} {v : Value} (h : RelV σ (.pointer (some a)) v) : ∃ a', v = .pointer (some a') ∧ RelA σ a a' := by
  cases h with
  | ptr he => exact ⟨_, rfl, _, he, rfl, rfl⟩

theorem Sim.sureAddr {v v' : Value} (hv : RelV σ v v') : Sim P W σ (Instr.sureAddr v) (Instr.sureAddr v') RelA := by
  cases hv with
  | ptr he => exact Sim.pure ⟨_, he, rfl, rfl⟩
  | _ => exact Sim.none fun m => rfl

theorem Sim.loadAt {v v' : Value} (hv : RelV σ v v') (t : TypeId) : Sim P W σ (Instr.loadAt t v) (Instr.loadAt t v') RelV := by
  unfold Instr.loadAt
  exact Sim.bind (Sim.sureAddr hv) fun σ' a a' _ ha => Sim.loadVar ha t

theorem Sim.storeAt {v v' x x' : Value} (hv : RelV σ v v') (hx : RelV σ x x') (t : TypeId) : Sim P W σ (Instr.storeAt t v x) (Instr.storeAt t v' x') fun _ _ _ => True := by
  unfold Instr.storeAt
  exact Sim.bind (Sim.sureAddr hv) fun σ' a a' h ha => Sim.storeVar ha t (hx.ext h)

theorem zeros_pure (hz : zerosOk P = true) {t : TypeId} (ht : t < P.types.size) {i : TypeInfo} (hi : P.info? t = some i) {z : Value} (h : i.zero = some z) : pureD 8 z = true := by
  have h1 := List.all_eq_true.1 hz i (by
    have : P.types[t]? = some i := by simpa [Tables.info?, ht] using hi
    rw [Array.getElem?_eq_some_iff] at this
    obtain ⟨hl, rfl⟩ := this
    simp)
  rw [h] at h1
  exact h1

theorem Sim.zero (hz : zerosOk P = true) {t : TypeId} (ht : t < P.types.size) : Sim P W σ (zeroValue t) (zeroValue t) fun _ a b => a = b ∧ pureD 8 a = true := by
  unfold zeroValue
  refine Sim.bind Sim.info fun σ' i i' _ h => ?_
  obtain ⟨rfl, hi⟩ := h
  cases h : i.zero with
  | none => exact Sim.none fun m => rfl
  | some z => exact Sim.pure ⟨rfl, zeros_pure hz ht hi h⟩

theorem Sim.alloc (hz : zerosOk P = true) {t : TypeId} (ht : t < P.types.size) : Sim P W σ (Instr.alloc t true (.tuple #[])) (Instr.alloc t true (.tuple #[])) RelV := by
  unfold Instr.alloc
  refine Sim.bind (Sim.zero hz ht) fun σ' z z' _ h => ?_
  obtain ⟨rfl, hp⟩ := h
  exact Sim.bind (Sim.newVar (pure_rel 8 z hp) t) fun σ2 a a' _ ha => Sim.pure ha.ptr

theorem Sim.box {v v' : Value} (hv : RelV σ v v') (t : TypeId) : Sim P W σ (Instr.box t v) (Instr.box t v') RelV := by
  unfold Instr.box
  exact Sim.bind (Sim.newVar hv t) fun σ2 a a' _ ha => Sim.pure ha.ptr

structure RelP (σ : Ren) (l l' : List (Nat × Value)) : Prop where
  size : l.length = l'.length
  each : ∀ (i : Nat) (v v' : Nat × Value), l[i]? = some v → l'[i]? = some v' → v.1 = v'.1 ∧ RelV σ v.2 v'.2

theorem RelP.cons_inv {v v' : Nat × Value} {l l' : List (Nat × Value)} (h : RelP σ (v :: l) (v' :: l')) : v.1 = v'.1 ∧ RelV σ v.2 v'.2 ∧ RelP σ l l' :=
  ⟨(h.each 0 v v' rfl rfl).1, (h.each 0 v v' rfl rfl).2, ⟨by simpa using h.size, fun i a b ha hb => h.each (i + 1) a b (by simpa using ha) (by simpa using hb)⟩⟩

theorem relVs_foldl (off : Nat) : ∀ (l l' : List Value) (k : Nat) (cs cs' : Array Value), RelL σ l l' → RelVs σ cs cs' →
    RelVs σ ((l.zipIdx k).foldl (fun cs x => cs.setIfInBounds (off + x.2) x.1) cs) ((l'.zipIdx k).foldl (fun cs x => cs.setIfInBounds (off + x.2) x.1) cs') := by
  intro l
  induction l with
  | nil =>
    intro l' k cs cs' h hc
    have hl : l' = [] := List.eq_nil_of_length_eq_zero h.size.symm
    subst hl; exact hc
  | cons v l ih =>
    intro l' k cs cs' h hc
    cases l' with
    | nil => have := h.size; simp at this
    | cons v' l' =>
      obtain ⟨h1, h2⟩ := h.cons_inv
      simp only [List.zipIdx_cons, List.foldl_cons]
      exact ih l' (k + 1) _ _ h2 (hc.set _ h1)

theorem rel_fill (place : Nat → Option (Nat × Nat)) : ∀ (l l' : List (Nat × Value)) (cs cs' : Array Value), RelP σ l l' → RelVs σ cs cs' →
    (∃ r r', Instr.fill place cs l = some r ∧ Instr.fill place cs' l' = some r' ∧ RelVs σ r r') ∨ Instr.fill place cs l = none := by
  intro l
  induction l with
  | nil =>
    intro l' cs cs' h hc
    have hl : l' = [] := List.eq_nil_of_length_eq_zero h.size.symm
    subst hl; exact .inl ⟨cs, cs', rfl, rfl, hc⟩
  | cons p l ih =>
    intro l' cs cs' h hc
    cases l' with
    | nil => have := h.size; simp at this
    | cons p' l' =>
      obtain ⟨i, v⟩ := p
      obtain ⟨i', v'⟩ := p'
      obtain ⟨h1, h2, h3⟩ := h.cons_inv
      simp only at h1 h2
      subst h1
      unfold Instr.fill
      cases hp : place i with
      | none => right; rfl
      | some q =>
        obtain ⟨off, size⟩ := q
        simp only
        have hv := RelVs.cells h2
        have e1 := hv.size
        have e2 := hc.size
        by_cases hb : (v.cells.size ≠ size || off + v.cells.size > cs.size) = true
        · right; rw [if_pos (by simpa using hb)]
        · have hb' : ¬ (v'.cells.size ≠ size || off + v'.cells.size > cs'.size) = true := by rw [← e1, ← e2]; exact hb
          rw [if_neg (by simpa using hb), if_neg (by simpa using hb')]
          have key := relVs_foldl off v.cells.toList v'.cells.toList 0 cs cs' hv.toL hc
          have e3 : ∀ (a : Array Value) (b : Array Value), a.zipIdx.foldl (fun cs x => cs.setIfInBounds (off + x.2) x.1) b = (a.toList.zipIdx 0).foldl (fun cs x => cs.setIfInBounds (off + x.2) x.1) b := by
            intro a b
            rw [← Array.foldl_toList, Array.toList_zipIdx]
          rw [← e3, ← e3] at key
          exact ih l' _ _ h3 key

theorem sim_mapM_fields : ∀ (fs : List Field) (σ : Ren), Sim P W σ (fs.mapM fun f => (do pure (f.offset, ← Go.sizeOf f.type) : Sem (Nat × Nat))) (fs.mapM fun f => (do pure (f.offset, ← Go.sizeOf f.type) : Sem (Nat × Nat))) fun _ a b => a = b := by
  intro fs
  induction fs with
  | nil => intro σ; simp only [List.mapM_nil]; exact Sim.pure rfl
  | cons f fs ih =>
    intro σ
    simp only [List.mapM_cons]
    refine Sim.bind (R := fun _ a b => a = b) (Sim.bind Sim.sizeOf fun σ' n n' _ h => ?_) fun σ' x x' _ hx => ?_
    · subst h; exact Sim.pure rfl
    · subst hx
      exact Sim.bind (ih σ') fun σ2 y y' _ hy => by subst hy; exact Sim.pure rfl

theorem Sim.build (hz : zerosOk P = true) {t : TypeId} (ht : t < P.types.size) {ps ps' : Array (Nat × Value)} (hp : RelP σ ps.toList ps'.toList) : Sim P W σ (Instr.build t ps) (Instr.build t ps') RelV := by
  unfold Instr.build
  refine Sim.bind (Sim.zero hz ht) fun σ' z z' hx h => ?_
  obtain ⟨rfl, hpure⟩ := h
  have hzc : ∀ σ : Ren, RelVs σ z.cells z.cells := fun σ => RelVs.cells (pure_rel 8 z hpure)
  have hp2 : ∀ {σ2 : Ren}, Ext σ σ2 → RelP σ2 ps.toList ps'.toList := fun hx2 => ⟨hp.size, fun i v v' a b => ⟨(hp.each i v v' a b).1, (hp.each i v v' a b).2.ext hx2⟩⟩
  refine Sim.bind Sim.under fun σ2 d d' hx2 h => ?_
  obtain ⟨rfl, _⟩ := h
  cases d with
  | struct fields =>
    simp only [Array.mapM_eq_mapM_toList]
    refine Sim.bind (R := fun _ a b => a = b) ?_ fun σ3 pl pl' hx3 h => ?_
    · exact Sim.bind (sim_mapM_fields fields.toList σ2) fun σ3 a b _ h => by subst h; exact Sim.pure rfl
    · subst h
      rcases rel_fill (σ := σ3) (pl[·]?) ps.toList ps'.toList z.cells z.cells (hp2 ((hx.trans hx2).trans hx3)) (hzc σ3) with ⟨r, r', h1, h2, h3⟩ | h1
      · simp only [h1, h2]; exact Sim.pure h3.mkAgg
      · simp only [h1]; exact Sim.none fun m => rfl
  | array n elem =>
    refine Sim.bind Sim.sizeOf fun σ3 n1 n1' hx3 h => ?_
    subst h
    rcases rel_fill (σ := σ3) (fun i => some (i * n1, n1)) ps.toList ps'.toList z.cells z.cells (hp2 ((hx.trans hx2).trans hx3)) (hzc σ3) with ⟨r, r', h1, h2, h3⟩ | h1
    · simp only [h1, h2]; exact Sim.pure h3.mkAgg
    · simp only [h1]; exact Sim.none fun m => rfl
  | _ => exact Sim.none fun m => rfl
end
end Go.Proofs.Ytfghccppoilfhaa
