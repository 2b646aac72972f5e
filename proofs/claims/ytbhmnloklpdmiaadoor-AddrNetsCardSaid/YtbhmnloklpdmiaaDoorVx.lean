/-
  Maps of one's own, whose keys and values are numbers: made, looked up, written, thinned. Conditions: the type's keys and values are numbers of 64 bits.
-/
import Derived.Test.YtbhmnloklpdmiaaDoorVo
import Derived.MapKept
namespace Go.Proofs.YtbhmnloklpdmiaaDoor.V
open Go.RowKit

/-- An entry: its key, its value, when it was laid. -/
abbrev ME := Int × Int × Nat
def meV (x : ME) : MapEntry := { key := .int .i64 x.1, val := .int .i64 x.2.1, born := x.2.2 }
/-- A map as an object. -/
def imapO (L : List ME) (c : Nat) : Obj := .map (L.map meV).toArray c
def imap (L : List ME) (c : Nat) : OA := .ob (.map (L.map meV).toArray c)
def mfind (k : Int) : List ME → Option Int
  | [] => none
  | x :: r => if k = x.1 then some x.2.1 else mfind k r
def mset (k v : Int) : List ME → List ME
  | [] => []
  | x :: r => if k = x.1 then (k, v, x.2.2) :: r else x :: mset k v r
def mdel (k : Int) : List ME → List ME
  | [] => []
  | x :: r => if k = x.1 then r else x :: mdel k r
/-- Where a key stands. -/
def mloc (k : Int) : List ME → Nat → Option (Nat × Value)
  | [], _ => none
  | x :: r, i => if k = x.1 then some (i, .int .i64 x.2.1) else mloc k r (i + 1)

theorem findNow_mloc (k : Int) : ∀ (L : List ME) (i : Nat), Instr.findNow (.int .i64) (.int .i64 k) (L.map meV) i = some (mloc k L i)
  | [], _ => rfl
  | x :: r, i => by
    rw [List.map_cons, Instr.findNow, mloc]
    by_cases h : k = x.1
    · have : Instr.sameNow (.int .i64) (.int .i64 k) (meV x).key = some true := by subst h; simp [Instr.sameNow, meV]
      rw [this, if_pos h]; rfl
    · have : Instr.sameNow (.int .i64) (.int .i64 k) (meV x).key = some false := by simp [Instr.sameNow, meV, h]
      rw [this, if_neg h]; exact findNow_mloc k r (i + 1)
theorem mloc_none {k : Int} : ∀ {L : List ME} {i : Nat}, mloc k L i = none → mfind k L = none ∧ mset k 0 L = L ∧ mdel k L = L
  | [], _, _ => ⟨rfl, rfl, rfl⟩
  | x :: r, i, h => by
    rw [mloc] at h
    by_cases hk : k = x.1
    · rw [if_pos hk] at h; cases h
    · rw [if_neg hk] at h
      obtain ⟨h1, h2, h3⟩ := mloc_none h
      simp only [mfind, mset, mdel, if_neg hk, h1, h2, h3, and_self]
theorem mloc_some {k : Int} : ∀ {L : List ME} {i j : Nat} {u : Value}, mloc k L i = some (j, u) → ∃ n x, j = i + n ∧ L[n]? = some x ∧ x.1 = k ∧ u = .int .i64 x.2.1 ∧ mfind k L = some x.2.1 ∧ (∀ v, mset k v L = L.modify n fun e => (k, v, e.2.2)) ∧ mdel k L = L.eraseIdx n
  | [], _, _, _, h => by cases h
  | x :: r, i, j, u, h => by
    rw [mloc] at h
    by_cases hk : k = x.1
    · rw [if_pos hk] at h
      injection h with h; injection h with h1 h2; subst h1 h2
      exact ⟨0, x, rfl, rfl, hk.symm, rfl, by simp [mfind, hk], fun v => by simp [mset, hk], by simp [mdel, hk]⟩
    · rw [if_neg hk] at h
      obtain ⟨n, y, h1, h2, h3, h4, h5, h6, h7⟩ := mloc_some h
      exact ⟨n + 1, y, by omega, by simpa using h2, h3, h4, by simp [mfind, hk, h5], fun v => by simp [mset, hk, h6], by simp [mdel, hk, h7]⟩

theorem map_erase {α β : Type} (f : α → β) : ∀ (L : List α) (j : Nat), (L.map f).eraseIdx j = (L.eraseIdx j).map f
  | [], _ => rfl
  | _ :: _, 0 => rfl
  | x :: r, j + 1 => by simp [List.eraseIdx_cons_succ, map_erase f r j]

/-- A type of maps from numbers to numbers. -/
def imapOk (P : Program) (t : TypeId) : Bool := match P.underlying t with
  | some (.map k e) => match P.underlying k, P.underlying e, P.info? e with
    | some (.int .i64), some (.int .i64), some i => match i.zero with
      | some (.int .i64 z) => decide (z = 0)
      | _ => false
    | _, _, _ => false
  | _ => false
theorem imapOk_spec {P : Program} {t : TypeId} (h : imapOk P t = true) : ∃ k e i, P.underlying t = some (.map k e) ∧ P.underlying k = some (.int .i64) ∧ P.underlying e = some (.int .i64) ∧ P.info? e = some i ∧ i.zero = some (.int .i64 0) := by
  unfold imapOk at h
  split at h
  · rename_i k e h1
    split at h
    · rename_i i h2 h3 h4
      split at h
      · rename_i z h5
        have := of_decide_eq_true h
        subst this
        exact ⟨k, e, i, h1, h2, h3, h4, h5⟩
      · cases h
    · cases h
  · cases h

section
variable {P : Program} {tt : TT} {E : Env} {s : St} {σ : Nat → Nat} {τ : Nat → Value} {a : Act} {w : World}

theorem owned_newObj {H : List (Nat × LO)} {nx b j : Nat} {o : Obj} {n : Nat} (h : owned ((nx, .obj (.ob o)) :: H) (setN σ nx b) τ j n) : (j = nx ∧ n = b) ∨ (j ≠ nx ∧ owned H σ τ j n) := by
  by_cases hj : j = nx
  · subst hj
    left
    rcases h with ⟨el', l', h1, rfl⟩ | ⟨α, el', e, enc, L, h1, h2⟩ | ⟨o, h1, h2⟩
    · rw [lget_same] at h1; cases h1
    · rw [lget_same] at h1; cases h1
    · rw [lget_same] at h1
      injection h1 with h1; injection h1 with h1; subst h1
      exact ⟨rfl, by simpa [setN, OA.foot] using h2⟩
  · right
    refine ⟨hj, ?_⟩
    rcases h with ⟨el', l', h1, rfl⟩ | ⟨α, el', e, enc, L, h1, h2⟩ | ⟨o, h1, h2⟩
    · rw [lget_ne _ _ hj] at h1
      exact .inl ⟨el', l', h1, by simp [setN, hj]⟩
    · rw [lget_ne _ _ hj] at h1
      exact .inr (.inl ⟨α, el', e, enc, L, h1, h2⟩)
    · rw [lget_ne _ _ hj] at h1
      exact .inr (.inr ⟨o, h1, by simpa [setN, hj] using h2⟩)

theorem allocObj_le (hs : HR E s.H s.nx σ τ w) (o : Obj) : (ctxOf E s.H s.nx σ τ w).Le (ctxOf E ((s.nx, .obj (.ob o)) :: s.H) (s.nx + 1) (setN σ s.nx w.heap.size) τ (w.alloc o)) := by
  refine ⟨fun b of hb hc => ?_, fun b hb => ?_, fun id off v hv => ?_, fun id v hv => ?_, fun id off v hv => ?_⟩
  · exact (Below.heap_alloc w o b hb.2.1).trans hc
  · obtain ⟨h1, h2, h3⟩ := hb
    refine ⟨h1, by simp; omega, fun id ho => ?_⟩
    rcases owned_newObj ho with ⟨_, rfl⟩ | ⟨_, ho⟩
    · exact absurd h2 (Nat.lt_irrefl _)
    · exact h3 id ho
  · obtain ⟨h1, rfl⟩ := hv
    exact ⟨Nat.lt_succ_of_lt h1, by simp [setN, show id ≠ s.nx by omega]⟩
  · exact ⟨Nat.lt_succ_of_lt hv.1, hv.2⟩
  · exact ⟨Nat.lt_succ_of_lt hv.1, hv.2⟩

/-- A new object of one's own that is no row of cells. -/
theorem allocObj_state (hs : SR E s σ τ a w) (o : Obj) : SR E ⟨s.F, (s.nx, .obj (.ob o)) :: s.H, s.nx + 1, s.G⟩ (setN σ s.nx w.heap.size) τ a (w.alloc o) := by
  have hle := allocObj_le hs.heap o
  refine ⟨⟨hs.heap.kept.alloc _, hs.heap.few, fun id el' l' h => ?_, fun id α el' e enc L h => ?_, fun i j b h1 h2 => ?_, fun id o h => ?_, hs.heap.slices, fun id o' h => ?_⟩, hs.defers, hs.size, fun i d h => (hs.slots i d h).mono hle, hs.ghost_le rfl hle, Nat.le_succ_of_le hs.room⟩
  · have hid : id ≠ s.nx := by rintro rfl; rw [lget_same] at h; cases h
    rw [lget_ne _ _ hid] at h
    obtain ⟨h1, c', h2, h3, h4⟩ := hs.heap.cells id el' l' h
    have hlt : σ id < w.heap.size := (Array.getElem?_eq_some_iff.1 h2).1
    refine ⟨by simpa [setN, hid] using h1, c', ?_, h3, fun j d u hd hu => (h4 j d u hd hu).mono hle⟩
    simp only [setN, hid, if_false]
    rw [Below.heap_alloc w _ _ hlt]; exact h2
  · have hid : id ≠ s.nx := by rintro rfl; rw [lget_same] at h; cases h
    rw [lget_ne _ _ hid] at h
    obtain ⟨h1, xs, h2, h3, h4⟩ := hs.heap.grow id α el' e enc L h
    exact ⟨h1, xs, h2.alloc _, h3, fun i x j d u hx hd hu => (h4 i x j d u hx hd hu).mono hle.still⟩
  · rcases owned_newObj h1 with ⟨rfl, rfl⟩ | ⟨g1, h1⟩ <;> rcases owned_newObj h2 with ⟨rfl, e2⟩ | ⟨g2, h2⟩
    · rfl
    · exact absurd (owned_lt hs.heap h2) (Nat.lt_irrefl _)
    · subst e2; exact absurd (owned_lt hs.heap h1) (Nat.lt_irrefl _)
    · exact hs.heap.apart i j b h1 h2
  · by_cases hid : id = s.nx
    · subst hid; exact Nat.lt_succ_self _
    · rw [lget_ne _ _ hid] at h
      exact Nat.lt_succ_of_lt (hs.heap.below id o h)
  · by_cases hid : id = s.nx
    · subst hid
      rw [lget_same] at h
      injection h with h; injection h with h; subst h
      have e0 : setN σ s.nx w.heap.size s.nx = w.heap.size := by simp [setN]
      rw [e0]
      refine ⟨fun k hk => ?_, ?_⟩
      · have hk : k = w.heap.size := hk
        subst hk
        exact ⟨.inr hs.heap.kept.size, by simp⟩
      · show (w.heap.push _)[w.heap.size]? = _
        simp
    · rw [lget_ne _ _ hid] at h
      obtain ⟨h1, h2⟩ := hs.heap.obj id o' h
      have e0 : setN σ s.nx w.heap.size id = σ id := by simp [setN, hid]
      rw [e0]
      exact ⟨fun k hk => ⟨(h1 k hk).1, by have := (h1 k hk).2; simp; omega⟩, OA.at_mono h2 (fun k hk => Below.heap_alloc w _ _ (h1 k hk).2) (by show w.heap.size ≤ (w.alloc _).heap.size; simp) hle.still⟩

theorem owned_setObj {H : List (Nat × LO)} {id : Nat} {o o' : Obj} {j n : Nat} (hid : lget H id = some (.obj (.ob o))) (h : owned ((id, .obj (.ob o')) :: H) σ τ j n) : owned H σ τ j n := by
  by_cases hj : j = id
  · subst hj
    rcases h with ⟨el', l', h1, rfl⟩ | ⟨α, el', e, enc, L, h1, h2⟩ | ⟨o, h1, h2⟩
    · rw [lget_same] at h1; cases h1
    · rw [lget_same] at h1; cases h1
    · rw [lget_same] at h1
      injection h1 with h1; injection h1 with h1; subst h1
      exact .inr (.inr ⟨_, hid, h2⟩)
  · rcases h with ⟨el', l', h1, rfl⟩ | ⟨α, el', e, enc, L, h1, h2⟩ | ⟨o, h1, h2⟩
    rotate_left 2
    · rw [lget_ne _ _ hj] at h1
      exact .inr (.inr ⟨o, h1, h2⟩)
    · rw [lget_ne _ _ hj] at h1
      exact .inl ⟨el', l', h1, rfl⟩
    · rw [lget_ne _ _ hj] at h1
      exact .inr (.inl ⟨α, el', e, enc, L, h1, h2⟩)

/-- An object of one's own is another one now. -/
theorem setObj_state (hs : SR E s σ τ a w) {id : Nat} {o : Obj} (hid : lget s.H id = some (.obj (.ob o))) (o' : Obj) :
    SR E ⟨s.F, (id, .obj (.ob o')) :: s.H, s.nx, s.G⟩ σ τ a { w with heap := w.heap.setIfInBounds (σ id) o' } := by
  have hown : owned s.H σ τ id (σ id) := .inr (.inr ⟨_, hid, rfl⟩)
  obtain ⟨hmine, hblk⟩ := hs.heap.obj id _ hid
  have hmine := (hmine _ rfl).1
  have hblk : w.heap[σ id]? = some o := hblk
  have hlt : σ id < w.heap.size := (Array.getElem?_eq_some_iff.1 hblk).1
  have hk : ∀ k, k ≠ σ id → (w.heap.setIfInBounds (σ id) o')[k]? = w.heap[k]? := fun k hk => by
    rw [Array.getElem?_setIfInBounds, if_neg (fun h => hk h.symm)]
  have hsz : (w.heap.setIfInBounds (σ id) o').size = w.heap.size := by simp
  have hle : (ctxOf E s.H s.nx σ τ w).Le (ctxOf E ((id, .obj (.ob o')) :: s.H) s.nx σ τ { w with heap := w.heap.setIfInBounds (σ id) o' }) := by
    refine ⟨fun b of hb hc => ?_, fun b hb => ?_, fun _ _ _ hv => hv, fun _ _ hv => hv, fun _ _ _ hv => hv⟩
    · have hne : b ≠ σ id := by rintro rfl; exact hb.2.2 id hown
      exact (hk b hne).trans hc
    · exact ⟨hb.1, by show b < (w.heap.setIfInBounds (σ id) o').size; rw [hsz]; exact hb.2.1, fun j ho => hb.2.2 j (owned_setObj hid ho)⟩
  refine ⟨⟨⟨hs.heap.kept.os, hs.heap.kept.tape, hs.heap.kept.output, by show _ ≤ (w.heap.setIfInBounds (σ id) o').size; rw [hsz]; exact hs.heap.kept.size, fun k hk1 hn => ?_, hs.heap.kept.drawn⟩, hs.heap.few, fun j el' l2 h => ?_, fun j α el' e enc L h => ?_, fun i j b h1 h2 => hs.heap.apart i j b (owned_setObj hid h1) (owned_setObj hid h2), fun j o h => ?_, hs.heap.slices, fun j o2 h => ?_⟩, hs.defers, hs.size, fun i d h => (hs.slots i d h).mono hle, hs.ghost_le rfl hle, hs.room⟩
  · have hne : k ≠ σ id := by
      rintro rfl
      rcases hmine with hm | hm
      · exact hn hm
      · omega
    exact (hk k hne).trans (hs.heap.kept.block k hk1 hn)
  · have hj : j ≠ id := by rintro rfl; rw [lget_same] at h; cases h
    rw [lget_ne _ _ hj] at h
    obtain ⟨h1, c, h2, h3, h4⟩ := hs.heap.cells j el' l2 h
    have hne : σ j ≠ σ id := fun he => hj (hs.heap.apart j id (σ j) (.inl ⟨_, _, h, rfl⟩) (he ▸ hown))
    exact ⟨h1, c, (hk _ hne).trans h2, h3, fun j d u hd hu => (h4 j d u hd hu).mono hle⟩
  · have hj : j ≠ id := by rintro rfl; rw [lget_same] at h; cases h
    rw [lget_ne _ _ hj] at h
    obtain ⟨h1, xs, h2, h3, h4⟩ := hs.heap.grow j α el' e enc L h
    refine ⟨h1, xs, ?_, h3, fun i x j d u hx hd hu => (h4 i x j d u hx hd hu).mono hle.still⟩
    obtain ⟨h5, h6⟩ := h2
    refine ⟨h5, ?_⟩
    rcases h6 with h6 | ⟨g, cap, cur, hv, q1, q2, q3⟩
    · exact .inl h6
    · have hne : g ≠ σ id := fun he => hj (hs.heap.apart j id g (.inr (.inl ⟨_, _, _, _, _, h, by rw [hv]; rfl⟩)) (he ▸ hown))
      exact .inr ⟨g, cap, cur, hv, q1, (hk g hne).trans q2, q3⟩
  · by_cases hj : j = id
    · subst hj; exact hs.heap.below j _ hid
    · rw [lget_ne _ _ hj] at h; exact hs.heap.below j o h
  · by_cases hj : j = id
    · subst hj
      rw [lget_same] at h
      injection h with h; injection h with h; subst h
      refine ⟨fun k hk => ?_, ?_⟩
      · have hk : k = σ j := hk
        subst hk
        exact ⟨hmine, by show σ j < (w.heap.setIfInBounds (σ j) _).size; rw [hsz]; exact hlt⟩
      · show (w.heap.setIfInBounds (σ j) _)[σ j]? = _
        simp [hlt]
    · rw [lget_ne _ _ hj] at h
      obtain ⟨h1, h2⟩ := hs.heap.obj j o2 h
      exact ⟨fun k hkf => ⟨(h1 k hkf).1, by show k < (w.heap.setIfInBounds (σ id) _).size; rw [hsz]; exact (h1 k hkf).2⟩, OA.at_mono h2 (fun k hkf => hk k fun he => hj (hs.heap.apart j id k (.inr (.inr ⟨_, h, hkf⟩)) (he ▸ hown))) (Nat.le_of_eq hsz.symm) hle.still⟩

theorem op_makeMap {g : Bool} {o : Oper} {t : TypeId} (ho : o.op = .makeMap t none) {K : D → St → Prop} (h : K (.mapr s.nx) ⟨s.F, (s.nx, .obj (imap [] 0)) :: s.H, s.nx + 1, s.G⟩) : OpVC P g o s K := by
  intro E σ τ a w hs next Q hn
  unfold Oper.wp
  have hrun : (execOp a.eval o).run P w = .ok (.value (.map (some w.heap.size))) (w.alloc (.map #[] 0)) := by
    simp only [execOp, ho, Option.map_none]
    rfl
  rw [hrun]
  refine hn _ _ _ _ _ _ h (allocObj_state hs _) (.mapr ⟨Nat.lt_succ_self _, ?_⟩) (fun _ => (Below.refl _ _).alloc (Nat.le_refl _) _)
  simp [setN]

theorem mapr_val {C : Ctx} {id : Nat} {v : Value} (h : Rep C (.mapr id) v) : ∃ b, v = .map (some b) ∧ C.loc id 0 (.pointer (some ⟨b, 0, none⟩)) := by
  cases h with
  | mapr hl => exact ⟨_, rfl, hl⟩

theorem op_lookup {g : Bool} {o : Oper} {t : TypeId} {x k : Operand} {id : Nat} {n : Int} {L : List ME} {c : Nat} (ho : o.op = .lookup t x k true) (hm : imapOk P t = true) (hx : evD s x = .mapr id) (hk : evD s k = .v (.int .i64 n)) (hid : lget s.H id = some (.obj (imap L c))) {K : D → St → Prop}
    (h : K (.tup [.v (.int .i64 ((mfind n L).getD 0)), .v (.bool (mfind n L).isSome)]) s) : OpVC P g o s K := by
  intro E σ τ a w hs next Q hn
  obtain ⟨kt, e, i, u1, u2, u3, u4, u5⟩ := imapOk_spec hm
  have hxv := evD_rep hs x
  rw [hx] at hxv
  obtain ⟨b, hv, hl⟩ := mapr_val hxv
  have hkv := evD_rep hs k
  rw [hk] at hkv
  have hkv := rep_v hkv
  obtain ⟨_, hl⟩ := hl
  injection hl with hl; injection hl with hl; injection hl with hl
  obtain ⟨_, hob⟩ := hs.heap.obj id _ hid
  rw [← hl] at hob
  unfold Oper.wp
  have hz : ∀ w, (zeroValue e).run P w = .ok (.int .i64 0) w := fun w => by simp [zeroValue, typeInfo, u4, u5]
  have hrun : (execOp a.eval o).run P w = .ok (.value (.tuple #[.int .i64 ((mfind n L).getD 0), .bool (mfind n L).isSome])) w := by
    have hob' : w.heap[b]? = some (.map (L.map meV).toArray c) := hob
    have hf := findNow_mloc n L 0
    simp only [execOp, ho, Instr.lookup, Sem.run_bind, run_und u1, Result.andThen_ok, hv, hkv, getObj, Sem.run, hob', MapKept.run_checkKey u2 (show MapKept.IsKey (.int .i64) (.int .i64 n) from rfl), Sem.run_pure, List.toList_toArray, MapKept.run_findKey u2 hf]
    cases hq : mloc n L 0 with
    | none =>
      obtain ⟨h1, _, _⟩ := mloc_none hq
      simp [hz, h1]
    | some r =>
      obtain ⟨j, u⟩ := r
      obtain ⟨_, y, _, _, _, rfl, h2, _⟩ := mloc_some hq
      simp [h2]
  rw [hrun]
  refine hn _ _ _ _ _ _ h hs ?_ (fun _ => Below.refl _ _)
  refine .tup rfl fun j d u hd hu => ?_
  match j, hd, hu with
  | 0, hd, hu => injection hd with hd; injection hu with hu; subst hd hu; exact .v
  | 1, hd, hu => injection hd with hd; injection hu with hu; subst hd hu; exact .v
  | _ + 2, hd, _ => simp at hd

theorem op_mapUpdate {o : Oper} {t : TypeId} {x k v : Operand} {id : Nat} {n m : Int} {L : List ME} {c : Nat} (ho : o.op = .mapUpdate t x k v) (hm : imapOk P t = true) (hx : evD s x = .mapr id) (hk : evD s k = .v (.int .i64 n)) (hval : evD s v = .v (.int .i64 m)) (hid : lget s.H id = some (.obj (imap L c))) {K : D → St → Prop}
    (h0 : mfind n L = none → K (.v undef) ⟨s.F, (id, .obj (imap (L ++ [(n, m, c)]) (c + 1))) :: s.H, s.nx, s.G⟩)
    (h1 : mfind n L ≠ none → K (.v undef) ⟨s.F, (id, .obj (imap (mset n m L) c)) :: s.H, s.nx, s.G⟩) : OpVC P false o s K := by
  intro E σ τ a w hs next Q hn
  obtain ⟨kt, e, i, u1, u2, u3, u4, u5⟩ := imapOk_spec hm
  have hxv := evD_rep hs x
  rw [hx] at hxv
  obtain ⟨b, hv, hl⟩ := mapr_val hxv
  have hkv := evD_rep hs k
  rw [hk] at hkv
  have hkv := rep_v hkv
  have hmv := evD_rep hs v
  rw [hval] at hmv
  have hmv := rep_v hmv
  obtain ⟨_, hl⟩ := hl
  injection hl with hl; injection hl with hl; injection hl with hl
  obtain ⟨_, hob⟩ := hs.heap.obj id _ hid
  rw [← hl] at hob
  unfold Oper.wp
  have hob' : w.heap[b]? = some (.map (L.map meV).toArray c) := hob
  have hf := findNow_mloc n L 0
  cases hq : mloc n L 0 with
  | none =>
    obtain ⟨g1, _, _⟩ := mloc_none hq
    rw [hq] at hf
    have hrun : (execOp a.eval o).run P w = .ok .skip { w with heap := w.heap.setIfInBounds (σ id) (imapO (L ++ [(n, m, c)]) (c + 1)) } := by
      rw [← hl]
      simp only [execOp, ho, Instr.mapUpdate, Sem.run_bind, run_und u1, Result.andThen_ok, hv, hkv, hmv, getObj, Sem.run, hob', MapKept.run_checkKey u2 (show MapKept.IsKey (.int .i64) (.int .i64 n) from rfl), Sem.run_pure, List.toList_toArray, MapKept.run_findKey u2 hf, MapKept.run_setObj_map _ hob']
      simp [imapO, meV]
    rw [hrun]
    exact hn _ _ _ _ _ _ (h0 g1) (setObj_state hs hid _) .v (fun h => by cases h)
  | some r =>
    obtain ⟨j, u⟩ := r
    obtain ⟨j', y, g1, g2, g3, rfl, g4, g5, _⟩ := mloc_some hq
    rw [hq] at hf
    obtain rfl : j = j' := by omega
    have hkeep : (Instr.keyThatStays ((((L.map meV).toArray[j]?).map (·.key)).getD (.int .i64 n)) (.int .i64 n)).run P w = .ok (.int .i64 n) w := by
      have : Instr.sameBits 10000 ((((L.map meV).toArray[j]?).map (·.key)).getD (.int .i64 n)) (.int .i64 n) = true := by
        simp [g2, meV, g3, Instr.sameBits]
      simp only [Instr.keyThatStays, this, if_true, Sem.run_pure]
    have hrun : (execOp a.eval o).run P w = .ok .skip { w with heap := w.heap.setIfInBounds (σ id) (imapO (mset n m L) c) } := by
      rw [← hl]
      simp only [execOp, ho, Instr.mapUpdate, Sem.run_bind, run_und u1, Result.andThen_ok, hv, hkv, hmv, getObj, Sem.run, hob', MapKept.run_checkKey u2 (show MapKept.IsKey (.int .i64) (.int .i64 n) from rfl), Sem.run_pure, List.toList_toArray, MapKept.run_findKey u2 hf, hkeep, MapKept.run_setObj_map _ hob']
      have : imapO (mset n m L) c = .map ((L.map meV).toArray.modify j fun e => { key := .int .i64 n, val := .int .i64 m, born := e.born }) c := by
        unfold imapO
        congr 1
        rw [g5]
        apply Array.ext'
        simp only [Array.toList_modify]
        apply List.ext_getElem?
        intro q
        simp only [List.getElem?_map, List.getElem?_modify]
        cases L[q]? with
        | none => rfl
        | some z => by_cases hq : j = q <;> simp [hq, meV]
      rw [this]
    rw [hrun]
    exact hn _ _ _ _ _ _ (h1 (by rw [g4]; simp)) (setObj_state hs hid _) .v (fun h => by cases h)

theorem op_delete {o : Oper} {t t2 : TypeId} {x k : Operand} {id : Nat} {n : Int} {L : List ME} {c : Nat} (ho : o.op = .call { callee := .builtin .delete, args := #[x, k], argTypes := #[t, t2] }) (hm : imapOk P t = true) (hx : evD s x = .mapr id) (hk : evD s k = .v (.int .i64 n)) (hid : lget s.H id = some (.obj (imap L c))) {K : D → St → Prop}
    (h : K (.v (.tuple #[])) ⟨s.F, (id, .obj (imap (mdel n L) c)) :: s.H, s.nx, s.G⟩) : OpVC P false o s K := by
  intro E σ τ a w hs next Q hn
  obtain ⟨kt, e, i, u1, u2, u3, u4, u5⟩ := imapOk_spec hm
  have hxv := evD_rep hs x
  rw [hx] at hxv
  obtain ⟨b, hv, hl⟩ := mapr_val hxv
  have hkv := evD_rep hs k
  rw [hk] at hkv
  have hkv := rep_v hkv
  obtain ⟨_, hl⟩ := hl
  injection hl with hl; injection hl with hl; injection hl with hl
  obtain ⟨_, hob⟩ := hs.heap.obj id _ hid
  rw [← hl] at hob
  unfold Oper.wp
  have hob' : w.heap[b]? = some (.map (L.map meV).toArray c) := hob
  have hf := findNow_mloc n L 0
  have hrun : (execOp a.eval o).run P w = .ok (.value (.tuple #[])) { w with heap := w.heap.setIfInBounds (σ id) (imapO (mdel n L) c) } := by
    rw [← hl]
    cases hq : mloc n L 0 with
    | none =>
      obtain ⟨_, _, g1⟩ := mloc_none hq
      rw [hq] at hf
      simp [execOp, ho, resolve, invoke, builtin, Builtin.delete_, run_und u1, hv, hkv, getObj, Sem.run, hob', MapKept.run_checkKey u2 (show MapKept.IsKey (.int .i64) (.int .i64 n) from rfl), MapKept.run_findKey u2 hf, MapKept.run_setObj_map _ hob', g1, imapO]
    | some r =>
      obtain ⟨j, u⟩ := r
      obtain ⟨j', y, g1, g2, g3, rfl, g4, _, g5⟩ := mloc_some hq
      rw [hq] at hf
      obtain rfl : j = j' := by omega
      simp [execOp, ho, resolve, invoke, builtin, Builtin.delete_, run_und u1, hv, hkv, getObj, Sem.run, hob', MapKept.run_checkKey u2 (show MapKept.IsKey (.int .i64) (.int .i64 n) from rfl), MapKept.run_findKey u2 hf, MapKept.run_setObj_map _ hob', g5, imapO, map_erase]
  rw [hrun]
  exact hn _ _ _ _ _ _ h (setObj_state hs hid _) .v (fun h => by cases h)
end
end Go.Proofs.YtbhmnloklpdmiaaDoor.V
