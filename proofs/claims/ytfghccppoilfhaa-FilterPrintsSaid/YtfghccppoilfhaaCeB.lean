/-
  The same, part 2: a piece of the model run on abstract memory, and that it says what a world's run does. No condition.
-/
import Derived.Test.YtfghccppoilfhaaCeA
namespace Go.Proofs.Ytfghccppoilfhaa
open Go.RowKit

def arun (P : Program) {α : Type} : Sem α → AM → Option (α × AM)
  | .pure a, m => some (a, m)
  | .load _ a k, m => match m.cell? a with
    | some v => arun P (k v) m
    | none => none
  | .store _ a v k, m => if v.oneCell' = true then match m.setCell? a v with
      | some m' => arun P k m'
      | none => none
    else none
  | .new o k, m => match o with
    | .cells c e f => if f = (0, 0) then arun P (k m.next) (m.push (.cells c e f)) else none
    | .map es ck => if es.isEmpty then arun P (k m.next) (m.push (.map #[] ck)) else none
    | .stringIter s p => arun P (k m.next) (m.push (.stringIter s p))
    | .mapIter r s n l => arun P (k m.next) (m.push (.mapIter r s n l))
    | _ => none
  | .shape r k, m => match m.get r with
    | some (.cells c e f) => if f = (0, 0) then arun P (k (some (e, c.size))) m else none
    | some _ => arun P (k none) m
    | none => none
  | .frozen a k, m => match m.get a.block with
    | some (.cells c _ f) => if f = (0, 0) ∧ a.off < c.size then arun P (k false) m else none
    | _ => none
  | .getObj r k, m => match m.get r with
    | some (.map es ck) => arun P (k (.map es ck)) m
    | some (.stringIter s p) => arun P (k (.stringIter s p)) m
    | some (.mapIter a s n l) => arun P (k (.mapIter a s n l)) m
    | _ => none
  | .setObj r o k, m => match m.get r, o with
    | some (.map _ _), .map es ck => arun P k (m.set r (some (.map es ck)))
    | some (.stringIter _ _), .stringIter s p => arun P k (m.set r (some (.stringIter s p)))
    | some (.mapIter _ _ _ _), .mapIter a s n l => arun P k (m.set r (some (.mapIter a s n l)))
    | _, _ => none
  | .choose q k, m => if q.forced = true then arun P (k 0) m else none
  | .program k, m => arun P (k P) m
  | .mark _ k, m => arun P k m
  | .freeze _ _ _, _ => none
  | .sys _ _, _ => none
  | .halt _, _ => none

def peel (P : Program) {α : Type} : Sem α → Option α
  | .pure a => some a
  | .program k => peel P (k P)
  | .mark _ k => peel P k
  | .choose q k => if q.forced = true then peel P (k 0) else none
  | _ => none

theorem peel_run {P : Program} {α : Type} {s : Sem α} {a : α} (h : peel P s = some a) (w : World) : s.run P w = .ok a w := by
  induction s with
  | pure b => simp only [peel, Option.some.injEq] at h; subst h; rfl
  | program k ih => exact ih P h
  | mark m k ih => exact ih h
  | choose q k ih =>
    simp only [peel] at h
    split at h
    · rename_i hq
      simp only [Sem.run, hq, if_true]
      exact ih 0 h
    · cases h
  | _ => simp [peel] at h

theorem arun_bind {P : Program} {α β : Type} (s : Sem α) (f : α → Sem β) (m : AM) : arun P (s >>= f) m = match arun P s m with
    | some (a, m') => arun P (f a) m'
    | none => none := by
  show arun P (s.bind f) m = _
  induction s generalizing m with
  | pure a => rfl
  | load mo a k ih => simp only [Sem.bind, arun]; cases m.cell? a <;> simp [ih]
  | store mo a v k ih =>
    simp only [Sem.bind, arun]
    split
    · cases m.setCell? a v <;> simp [ih]
    · rfl
  | new o k ih => cases o <;> simp only [Sem.bind, arun] <;> first | (simp [ih]; done) | (split <;> simp [ih])
  | shape r k ih => simp only [Sem.bind, arun]; cases m.get r with
    | none => rfl
    | some o => cases o <;> first | (simp [ih]; done) | (simp only []; split <;> simp [ih])
  | freeze a n k ih => rfl
  | frozen a k ih => simp only [Sem.bind, arun]; cases m.get a.block with
    | none => rfl
    | some o => cases o <;> first | (simp [ih]; done) | (simp only []; split <;> simp [ih])
  | getObj r k ih => simp only [Sem.bind, arun]; cases m.get r with
    | none => rfl
    | some o => cases o <;> simp [ih]
  | setObj r o k ih => simp only [Sem.bind, arun]; cases m.get r with
    | none => rfl
    | some x => cases x <;> cases o <;> simp [ih]
  | choose q k ih => simp only [Sem.bind, arun]; split <;> simp [ih]
  | sys c k ih => rfl
  | program k ih => simp [Sem.bind, arun, ih]
  | mark mk k ih => simp [Sem.bind, arun, ih]
  | halt h => rfl

def RelA (σ : Ren) (a a' : Addr) : Prop := ∃ e, σ.ent a.block = some e ∧ a.spot = none ∧ a' = ⟨e.blk, a.off + e.sh, none⟩

theorem RelA.ext {σ σ' : Ren} (hx : Ext σ σ') {a a' : Addr} (h : RelA σ a a') : RelA σ' a a' := let ⟨e, h1, h2, h3⟩ := h; ⟨e, hx.ent _ _ h1, h2, h3⟩

theorem RelA.add {σ : Ren} {a a' : Addr} (h : RelA σ a a') (n : Nat) : RelA σ (a.add n) (a'.add n) := by
  obtain ⟨e, h1, h2, rfl⟩ := h
  unfold Addr.add
  by_cases hn : n = 0
  · simp only [hn, if_true]; exact ⟨e, h1, h2, rfl⟩
  · simp only [hn, if_false]
    exact ⟨e, h1, rfl, by simp; omega⟩

section
variable {P : Program} {W : Ref} {σ : Ren} {m : AM} {w : World}

theorem WR.size (h : WR W σ m w) : W.w.heap.size ≤ w.heap.size := h.below.size

theorem WR.drew (h : WR W σ m w) : WR W σ m w.drew := ⟨h.below.drew, h.pos, h.ent, h.obj, h.inj⟩

theorem heap_push_new (w : World) (o : Obj) : (w.alloc o).heap[w.heap.size]? = some o := by
  show (w.heap.push o)[w.heap.size]? = some o
  simp

def Ren.add (σ : Ren) (i : Nat) (e : Ent) : Ren := { σ with ent := fun j => if j = i then some e else σ.ent j }

theorem Ren.add_ext {σ : Ren} {i : Nat} (h : σ.ent i = none) (e : Ent) : Ext σ (σ.add i e) :=
  ⟨fun j e' hj => by
    have hne : j ≠ i := by rintro rfl; rw [h] at hj; cases hj
    simp [Ren.add, hne, hj], rfl⟩

theorem WR.fresh (h : WR W σ m w) : σ.ent m.next = none := by
  cases he : σ.ent m.next with
  | none => rfl
  | some e => have := (h.ent _ _ he).2.1; omega

theorem WR.push (h : WR W σ m w) {o o' : Obj} (e : Ent) (hb : e.blk = w.heap.size) (ho : RelO (σ.add m.next e) e o o') :
    WR W (σ.add m.next e) (m.push o) (w.alloc o') := by
  have hx : Ext σ (σ.add m.next e) := Ren.add_ext h.fresh e
  refine ⟨h.below.alloc _, Nat.succ_pos _, ?_, ?_, ?_⟩
  · intro i e' hi
    simp only [Ren.add] at hi
    have hs := h.size
    split at hi
    · injection hi with hi; subst hi
      rename_i hi'; subst hi'
      simp only [AM.push, World.size_alloc, hb]
      exact ⟨h.pos, by omega, .inr hs, by omega⟩
    · obtain ⟨h1, h2, h3, h4⟩ := h.ent i e' hi
      simp only [AM.push, World.size_alloc]
      exact ⟨h1, by omega, h3, by omega⟩
  · intro i x hi
    rcases Tr.get_of_set (show Tr.get deep _ i = some x from hi) with ⟨rfl, hx'⟩ | ⟨hne, hi'⟩
    · injection hx' with hx'; subst hx'
      exact ⟨e, o', by simp [Ren.add], by rw [hb]; exact heap_push_new w o', ho⟩
    · obtain ⟨e1, o1, h1, h2, h3⟩ := h.obj i x hi'
      refine ⟨e1, o1, hx.ent _ _ h1, ?_, h3.ext hx⟩
      rw [Below.heap_alloc w o' _ ((h.ent i e1 h1).2.2.2)]; exact h2
  · intro i j x y ei ej hi hj hei hej hblk
    simp only [Ren.add] at hei hej
    rcases Tr.get_of_set (show Tr.get deep _ i = some x from hi) with ⟨rfl, _⟩ | ⟨hne, hi'⟩ <;> rcases Tr.get_of_set (show Tr.get deep _ j = some y from hj) with ⟨rfl, _⟩ | ⟨hne', hj'⟩
    · rfl
    · simp only [if_true, Option.some.injEq] at hei
      subst hei
      rw [if_neg (Ne.symm hne')] at hej
      have := (h.ent j ej hej).2.2.2
      omega
    · simp only [if_true, Option.some.injEq] at hej
      subst hej
      rw [if_neg (Ne.symm hne)] at hei
      have := (h.ent i ei hei).2.2.2
      omega
    · rw [if_neg (Ne.symm hne)] at hei
      rw [if_neg (Ne.symm hne')] at hej
      exact h.inj i j x y ei ej hi' hj' hei hej hblk

theorem WR.cell (h : WR W σ m w) {a a' : Addr} (ha : RelA σ a a') {v : Value} (hv : m.cell? a = some v) : ∃ v', w.cell? a' = some v' ∧ RelV σ v v' := by
  obtain ⟨e, he, hs, rfl⟩ := ha
  unfold AM.cell? at hv
  split at hv
  · rename_i c el f ho
    simp only [hs, Option.isSome_none, Bool.false_eq_true, if_false] at hv
    obtain ⟨e1, o1, h1, h2, h3⟩ := h.obj _ _ ho
    rw [he] at h1; injection h1 with h1; subst h1
    cases h3 with
    | cells _ hsz hf hc h0 h1 =>
      obtain ⟨v', hv1, hv2⟩ := hc _ _ hv
      exact ⟨v', by simp [World.cell?, h2, hv1], hv2⟩
  · cases hv

theorem oneCell_rel {v v' : Value} (h : RelV σ v v') (h1 : v.oneCell' = true) : v'.oneCell' = true := by
  cases h <;> first | rfl | exact σ.one _ | assumption | (simp [Value.oneCell'] at h1)

theorem heap_setCell_at (w : World) (b o : Nat) (v : Value) (c : Array Value) (el : TypeId) (f : Nat × Nat) (h : w.heap[b]? = some (.cells c el f)) :
    (w.setCell ⟨b, o, none⟩ v).heap[b]? = some (.cells (c.setIfInBounds o v) el f) := by simp [World.setCell, Array.getElem?_modify, h]

theorem WR.set (h : WR W σ m w) {i : Nat} {x o o' : Obj} {e : Ent} {w' : World} (hx : m.get i = some x) (he : σ.ent i = some e) (hw : w'.heap[e.blk]? = some o') (ho : RelO σ e o o')
    (hb : Frame W w') (hs : w'.heap.size = w.heap.size) (hk : ∀ k, k ≠ e.blk → w'.heap[k]? = w.heap[k]?) : WR W σ (m.set i (some o)) w' := by
  refine ⟨hb, h.pos, fun j ej hj => by rw [hs]; exact h.ent j ej hj, ?_, ?_⟩
  · intro j y hj
    rcases Tr.get_of_set (show Tr.get deep _ j = some y from hj) with ⟨rfl, hy⟩ | ⟨hne, hj'⟩
    · injection hy with hy; subst hy
      exact ⟨e, o', he, hw, ho⟩
    · obtain ⟨e1, o1, h1, h2, h3⟩ := h.obj j y hj'
      refine ⟨e1, o1, h1, ?_, h3⟩
      rw [hk]
      · exact h2
      · intro hb'
        exact hne (h.inj i j x y e e1 hx hj' he h1 hb'.symm)
  · intro j k y z ej ek hj hk' hej hek hblk
    have live : ∀ j y, (m.set i (some o)).get j = some y → ∃ y', m.get j = some y' := by
      intro j y hj
      rcases Tr.get_of_set (show Tr.get deep _ j = some y from hj) with ⟨rfl, _⟩ | ⟨_, hj'⟩
      · exact ⟨x, hx⟩
      · exact ⟨y, hj'⟩
    obtain ⟨y', hy'⟩ := live j y hj
    obtain ⟨z', hz'⟩ := live k z hk'
    exact h.inj j k y' z' ej ek hy' hz' hej hek hblk

theorem getElem?_set_of {c : Array Value} {i j : Nat} {v u : Value} (h : (c.setIfInBounds i v)[j]? = some u) : (i = j ∧ u = v) ∨ (i ≠ j ∧ c[j]? = some u) := by
  rw [Array.getElem?_setIfInBounds] at h
  by_cases e : i = j
  · simp only [e, if_true] at h
    split at h
    · injection h with h; exact .inl ⟨e, h.symm⟩
    · cases h
  · simp only [e, if_false] at h; exact .inr ⟨e, h⟩

theorem WR.store (h : WR W σ m w) {a a' : Addr} (ha : RelA σ a a') {v v' : Value} (hv : RelV σ v v') {m' : AM} (hm : m.setCell? a v = some m') :
    (∃ u, w.cell? a' = some u) ∧ w.frozen? a' = false ∧ WR W σ m' (w.setCell a' v') := by
  obtain ⟨e, he, hs, rfl⟩ := ha
  unfold AM.setCell? at hm
  split at hm
  · rename_i c el f ho
    simp only [hs, Option.isSome_none, Bool.false_eq_true, if_false] at hm
    split at hm
    · rename_i hlt
      injection hm with hm; subst hm
      obtain ⟨e1, o1, h1, h2, h3⟩ := h.obj _ _ ho
      rw [he] at h1; injection h1 with h1; subst h1
      have hblk := (h.ent _ _ he).2.2
      cases h3 with
      | cells _ hsz hf hc h0 h1 =>
        rename_i c' f'
        obtain ⟨u', hu1, hu2⟩ := hc a.off c[a.off] (Array.getElem?_eq_getElem hlt)
        have hlt' : a.off + e.sh < c'.size := by
          rcases Nat.lt_or_ge (a.off + e.sh) c'.size with h' | h'
          · exact h'
          · rw [Array.getElem?_eq_none h'] at hu1; cases hu1
        refine ⟨⟨u', by simp [World.cell?, h2, hu1]⟩, ?_, ?_⟩
        · simp only [World.frozen?, h2]
          have := hf _ hlt'
          simp only [Bool.and_eq_false_iff, decide_eq_false_iff_not]
          by_cases hq : f'.1 ≤ a.off + e.sh
          · right; exact fun h => this hq h
          · left; exact hq
        · refine h.set ho he (heap_setCell_at w e.blk _ v' c' el f' h2) ?_ (h.below.setCell hblk.1 _) (by simp) (fun k hk => Below.heap_setCell _ _ _ _ hk)
          refine .cells el (by simpa using hsz) (by simpa using hf) ?_ ?_ h1
          · intro j u hj
            rcases getElem?_set_of hj with ⟨rfl, rfl⟩ | ⟨hne, hj'⟩
            · exact ⟨v', by simp [hlt'], hv⟩
            · obtain ⟨y, hy1, hy2⟩ := hc j u hj'
              refine ⟨y, ?_, hy2⟩
              rw [Array.getElem?_setIfInBounds, if_neg (by omega)]; exact hy1
          · intro h00; have := h0 h00; simpa using this
    · cases hm
  · cases hm

/-! ### Pieces of the model, run on both -/

def Quiet (σ σ' : Ren) (m m' : AM) (w w' : World) : Prop := m.tick ≤ m'.tick ∧ (m'.tick = m.tick → w' = w ∧ σ' = σ)
theorem Quiet.refl {σ : Ren} {m : AM} {w : World} : Quiet σ σ m m w w := ⟨Nat.le_refl _, fun _ => ⟨rfl, rfl⟩⟩
theorem Quiet.of_lt {σ σ' : Ren} {m m' : AM} {w w' : World} (h : m.tick < m'.tick) : Quiet σ σ' m m' w w' := ⟨Nat.le_of_lt h, fun e => by omega⟩
theorem Quiet.trans {r s t : Ren} {a b c : AM} {u v w : World} (h : Quiet r s a b u v) (k : Quiet s t b c v w) : Quiet r t a c u w :=
  ⟨Nat.le_trans h.1 k.1, fun e => by
    have h1 := h.1
    have k1 := k.1
    have h2 := h.2 (by omega)
    have k2 := k.2 (by omega)
    exact ⟨k2.1.trans h2.1, k2.2.trans h2.2⟩⟩

def Sim (P : Program) (W : Ref) {α β : Type} (σ : Ren) (s : Sem α) (t : Sem β) (R : Ren → α → β → Prop) : Prop :=
  ∀ m w a m', WR W σ m w → arun P s m = some (a, m') → ∃ σ' b w', Ext σ σ' ∧ t.run P w = .ok b w' ∧ WR W σ' m' w' ∧ R σ' a b ∧ Quiet σ σ' m m' w w'

theorem Sim.bind {α β γ δ : Type} {s : Sem α} {t : Sem β} {f : α → Sem γ} {g : β → Sem δ} {R : Ren → α → β → Prop} {S : Ren → γ → δ → Prop}
    (h : Sim P W σ s t R) (k : ∀ σ' a b, Ext σ σ' → R σ' a b → Sim P W σ' (f a) (g b) S) : Sim P W σ (s >>= f) (t >>= g) S := by
  intro m w a m' hw ha
  rw [arun_bind] at ha
  split at ha
  · rename_i x m1 hx
    obtain ⟨σ1, b1, w1, e1, r1, hw1, hR, q1⟩ := h m w x m1 hw hx
    obtain ⟨σ2, b2, w2, e2, r2, hw2, hS, q2⟩ := k σ1 x b1 e1 hR m1 w1 a m' hw1 ha
    exact ⟨σ2, b2, w2, e1.trans e2, by rw [Sem.run_bind, r1, Result.andThen_ok, r2], hw2, hS, q1.trans q2⟩
  · cases ha

theorem Sim.pure {α β : Type} {a : α} {b : β} {R : Ren → α → β → Prop} (h : R σ a b) : Sim P W σ (Pure.pure a) (Pure.pure b) R := by
  intro m w a' m' hw ha
  injection ha with ha
  injection ha with h1 h2
  subst h1 h2
  exact ⟨σ, b, w, Ext.refl σ, rfl, hw, h, Quiet.refl⟩

theorem Sim.stuck {α β : Type} {s : String} {t : Sem β} {R : Ren → α → β → Prop} : Sim P W σ (Go.stuck s : Sem α) t R := by
  intro m w a m' _ ha; cases ha
theorem Sim.none {α β : Type} {s : Sem α} {t : Sem β} {R : Ren → α → β → Prop} (h : ∀ m, arun P s m = none) : Sim P W σ s t R := by
  intro m w a m' _ ha; rw [h] at ha; cases ha

theorem goPanic_none {α : Type} (v : Value) (m : AM) : arun P (goPanic v : Sem α) m = none := rfl

theorem runtimePanic_none {α : Type} (e : RuntimeError) (m : AM) : arun P (runtimePanic e : Sem α) m = none := by
  unfold runtimePanic
  rw [arun_bind]
  simp only [program, arun]
  cases e <;> simp only [goPanic_none] <;> (simp only [arun_bind]; (repeat' split) <;> first | rfl | (rw [goPanic_none]))

theorem boundsPanic_none {α : Type} (k : IntKind) (x y : Int) (c : BoundsCode) (m : AM) : arun P (boundsPanic k x y c : Sem α) m = none := by
  unfold boundsPanic
  simp only []
  split
  · rw [arun_bind]
    have : arun P ((fun x => x == 1) <$> choose (Question.extern "runtime.boundsError.signed" 2)) m = none := rfl
    rw [this]
  · rw [arun_bind]
    exact runtimePanic_none _ _

theorem Sim.panic {α β : Type} {e : RuntimeError} {t : Sem β} {R : Ren → α → β → Prop} : Sim P W σ (runtimePanic e : Sem α) t R := Sim.none fun m => runtimePanic_none e m
theorem Sim.bounds {α β : Type} {k : IntKind} {x y : Int} {c : BoundsCode} {t : Sem β} {R : Ren → α → β → Prop} : Sim P W σ (boundsPanic k x y c : Sem α) t R := Sim.none fun m => boundsPanic_none k x y c m

theorem Sim.load {a a' : Addr} (ha : RelA σ a a') {mo : Mode} : Sim P W σ (Go.load a mo) (Go.load a' mo) RelV := by
  intro m w v m' hw hv
  simp only [Go.load, arun] at hv
  split at hv
  · rename_i u hu
    injection hv with hv; injection hv with h1 h2; subst h1 h2
    obtain ⟨v', h1, h2⟩ := hw.cell ha hu
    exact ⟨σ, v', w, Ext.refl σ, by simp [Go.load, Sem.run, h1], hw, h2, Quiet.refl⟩
  · cases hv

theorem store_run {w : World} {a : Addr} {v : Value} {mo : Mode} (h1 : v.oneCell' = true) (hc : ∃ u, w.cell? a = some u) (hf : w.frozen? a = false) :
    (Go.store a v mo).run P w = .ok () (w.setCell a v) := by
  obtain ⟨u, hu⟩ := hc
  cases v <;> first | (simp [Value.oneCell'] at h1; done) | simp [Go.store, Sem.run, hu, hf]

theorem setCell_tick {m m' : AM} {a : Addr} {v : Value} (h : m.setCell? a v = some m') : m.tick < m'.tick := by
  unfold AM.setCell? at h
  split at h
  · split at h
    · cases h
    · split at h
      · injection h with h; subst h; exact Nat.lt_succ_self _
      · cases h
  · cases h

theorem Sim.store {a a' : Addr} (ha : RelA σ a a') {v v' : Value} (hv : RelV σ v v') {mo : Mode} : Sim P W σ (Go.store a v mo) (Go.store a' v' mo) fun _ _ _ => True := by
  intro m w x m' hw hm
  simp only [Go.store, arun] at hm
  split at hm
  · rename_i h1
    split at hm
    · rename_i m1 hm1
      injection hm with hm; injection hm with h2 h3; subst h3
      obtain ⟨hc, hf, hw'⟩ := hw.store ha hv hm1
      exact ⟨σ, (), _, Ext.refl σ, store_run (oneCell_rel hv h1) hc hf, hw', trivial, Quiet.of_lt (setCell_tick hm1)⟩
    · cases hm
  · cases hm

def RelR (σ : Ren) (r r' : Nat) : Prop := ∃ e, σ.ent r = some e ∧ e.blk = r' ∧ e.sh = 0

theorem Sim.newCells {c c' : Array Value} (hc : RelVs σ c c') (el : TypeId) : Sim P W σ (newObj (.cells c el)) (newObj (.cells c' el)) RelR := by
  intro m w r m' hw hm
  simp only [newObj, arun, if_true] at hm
  injection hm with hm; injection hm with h1 h2; subst h1 h2
  refine ⟨σ.add m.next ⟨w.heap.size, 0, c'.size, 0⟩, w.heap.size, w.alloc (.cells c' el), Ren.add_ext hw.fresh _, rfl, hw.push _ rfl ?_, ⟨⟨w.heap.size, 0, c'.size, 0⟩, by simp only [Ren.add, if_true], rfl, rfl⟩, Quiet.of_lt (Nat.lt_succ_self _)⟩
  refine .cells el rfl (fun j _ h1 h2 => by simp at h2) (fun j v hv => ?_) (fun _ => ⟨hc.size.symm, rfl, rfl⟩) (fun h => absurd rfl h)
  have hj : j < c'.size := by
    have h1 := hc.size
    have h2 := (Array.getElem?_eq_some_iff.1 hv).1
    omega
  exact ⟨c'[j], by rw [Nat.add_zero]; exact Array.getElem?_eq_getElem hj, (hc.each j v _ hv (Array.getElem?_eq_getElem hj)).ext (Ren.add_ext hw.fresh _)⟩

theorem Sim.same {α : Type} {s : Sem α} {a : α} (h : peel P s = some a) {R : Ren → α → α → Prop} (hR : R σ a a) : Sim P W σ s s R := by
  intro m w x m' hw hx
  have key : ∀ {s : Sem α}, peel P s = some a → arun P s m = some (x, m') → x = a ∧ m' = m := by
    intro s h hx
    induction s with
    | pure b =>
      simp only [peel, Option.some.injEq] at h; subst h
      injection hx with hx; injection hx with h1 h2; exact ⟨h1.symm, h2.symm⟩
    | program k ih => exact ih P h hx
    | mark mk k ih => exact ih h hx
    | choose q k ih =>
      simp only [peel] at h
      simp only [arun] at hx
      split at h
      · rename_i hq; rw [if_pos hq] at hx; exact ih 0 h hx
      · cases h
    | _ => simp [peel] at h
  obtain ⟨rfl, rfl⟩ := key h hx
  exact ⟨σ, x, w, Ext.refl σ, peel_run h w, hw, hR, Quiet.refl⟩

theorem Sim.info {t : TypeId} : Sim P W σ (typeInfo t) (typeInfo t) fun _ i j => i = j ∧ P.info? t = some i := by
  intro m w x m' hw hx
  simp only [typeInfo, program] at hx
  rw [arun_bind] at hx
  simp only [arun] at hx
  cases h : P.info? t with
  | none => rw [h] at hx; cases hx
  | some i =>
    rw [h] at hx
    injection hx with hx; injection hx with h1 h2; subst h1 h2
    exact ⟨σ, i, w, Ext.refl σ, by simp [typeInfo, program, Sem.run, h], hw, ⟨rfl, rfl⟩, Quiet.refl⟩

theorem Sim.under {t : TypeId} : Sim P W σ (underlying t) (underlying t) fun _ i j => i = j ∧ P.underlying t = some i := by
  intro m w x m' hw hx
  simp only [underlying, program] at hx
  rw [arun_bind] at hx
  simp only [arun] at hx
  cases h : P.underlying t with
  | none => rw [h] at hx; cases hx
  | some i =>
    rw [h] at hx
    injection hx with hx; injection hx with h1 h2; subst h1 h2
    exact ⟨σ, i, w, Ext.refl σ, by simp [underlying, program, Sem.run, h], hw, ⟨rfl, rfl⟩, Quiet.refl⟩

theorem Sim.sizeOf {t : TypeId} : Sim P W σ (Go.sizeOf t) (Go.sizeOf t) fun _ i j => i = j := by
  unfold Go.sizeOf
  exact Sim.bind Sim.info fun σ' a b _ h => by obtain ⟨rfl, _⟩ := h; exact Sim.pure rfl

theorem Sim.isAgg {t : TypeId} : Sim P W σ (Go.isAgg t) (Go.isAgg t) fun _ i j => i = j := by
  unfold Go.isAgg
  refine Sim.bind Sim.under fun σ' a b _ h => ?_
  obtain ⟨rfl, _⟩ := h
  cases a <;> exact Sim.pure rfl

theorem Sim.mono {α β : Type} {s : Sem α} {t : Sem β} {R S : Ren → α → β → Prop} (h : Sim P W σ s t R) (hr : ∀ σ' a b, Ext σ σ' → R σ' a b → S σ' a b) : Sim P W σ s t S := by
  intro m w a m' hw ha
  obtain ⟨σ1, b, w1, e1, r1, hw1, hR, q⟩ := h m w a m' hw ha
  exact ⟨σ1, b, w1, e1, r1, hw1, hr _ _ _ e1 hR, q⟩

def zerosOk (P : Program) : Bool := P.types.toList.all fun i => match i.zero with | some z => pureD 8 z | none => true

end
end Go.Proofs.Ytfghccppoilfhaa
