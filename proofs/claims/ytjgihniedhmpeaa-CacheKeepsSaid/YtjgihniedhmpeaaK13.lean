/-
  The law's own map of what waits, as an arena: looked up, an entry taken hold of, a row behind it, an entry struck. Condition: keys of their types.
  Operations on the law's own map of what waits; what stands is what the map says. Condition: keys of their types.
  The law CacheKeeps by value, where lives is true. Conditions: numbers of their types.
-/
import Derived.Test.YtjgihniedhmpeaaK12
namespace Go.Proofs.Ytjgihniedhmpeaa.V
open Go.RowKit
attribute [local irreducible] Fn FnN ArC FnR ArL

section
variable {P : Program} {tt : TT} {E : Env} {s : St} {σ : Nat → Nat} {τ : Nat → Value} {a : Act} {w : World} {K : D → St → Prop}
theorem CallVC.lookS {g : Bool} {i : Nat} {S : Nat → Prop} {M : Ar} {f : FuncId} {args args0 : List D} {Q : D → Prop} (hf : FnN P f args0 Q) (hid : lget s.H i = some (V.arL S M)) (hcut : args.all (cutOk 6 0) = true)
    (hconv : ∀ (C : Ctx) (vs : List Value), (∀ k x, M k = some x → C.ok k ∧ x.at C.still k) → reps C args vs → reps C args0 vs) (h : ∀ d, Q d → K d s) : CallVC P g f args s K := by
  unfold FnN at hf
  refine ⟨hf.1, fun E σ τ a w args' hs hr => ?_⟩
  have hle : (ctxOf E s.H s.nx σ τ w).still.Le (baseCtx w fun b => ((E.B b ∨ E.K b) ∨ E.w.heap.size ≤ b) ∧ b < w.heap.size) := by
    refine ⟨fun _ _ _ h => h, fun b hb => ⟨?_, hb.2.1⟩, fun _ _ _ h => h, fun _ _ h => h, fun _ _ _ h => h⟩
    rcases hb.1 with h1 | h1 | h1
    · exact .inl (.inl h1)
    · exact .inl (.inr h1)
    · exact .inr h1
  have hr' : reps (baseCtx w fun b => ((E.B b ∨ E.K b) ∨ E.w.heap.size ≤ b) ∧ b < w.heap.size) args args' := ⟨hr.1, fun j d u hd hu => (cut_still (all_at hcut hd) (hr.2 j d u hd hu)).mono hle⟩
  have hM : ∀ k x, M k = some x → (baseCtx w fun b => ((E.B b ∨ E.K b) ∨ E.w.heap.size ≤ b) ∧ b < w.heap.size).ok k ∧ x.at (baseCtx w fun b => ((E.B b ∨ E.K b) ∨ E.w.heap.size ≤ b) ∧ b < w.heap.size) k := fun k x hx => by
    have hat := ar_at hs hid hx
    refine ⟨⟨?_, It.lt hat⟩, It.at_le hat (fun _ h => h) hle⟩
    rcases ((hs.heap.obj i _ hid).1 k (((hs.heap.obj i _ hid).2.1 k).2 ⟨x, hx⟩)).1 with h1 | h1
    · exact .inl (.inr h1)
    · exact .inr h1
  refine (hf.2 w _ args' (fun b hb => hb.2) (hconv _ _ hM hr')).mono fun e w' hh => ?_
  obtain ⟨d, v, h1, rfl, h3, h4⟩ := hh
  refine ⟨d, s, σ, τ, v, h d h1, rfl, below_state hs h3, h4.mono ⟨fun _ _ _ h => h, fun b hb => ?_, fun _ _ _ h => h.elim, fun _ _ h => h.elim, fun _ _ _ h => h.elim⟩, fun _ => h3.toBelow⟩
  exact ⟨.inr (.inr (Nat.le_trans hs.heap.kept.size hb.1)), hb.2, fun id ho => absurd (owned_lt hs.heap ho) (by have := hb.1; omega)⟩
end

/-! ### The map of rows -/
structure Wr where
  key : Int × Int
  ws : List (List Nat)
  born : Nat
  row : Option (Nat × Nat)
  rest : List Value
structure WDat where
  mg : Nat
  clk : Nat
  L : List Wr
def rowI (p : Wr) : List (Nat × It) := match p.row with
  | none => []
  | some x => [(x.1, .cells 40 (rowC wsE p.ws p.rest))]
def entW (p : Wr) : MapEntry := { key := placeV p.key.1 p.key.2, val := slV p.row p.ws.length, born := p.born }
def mapW (d : WDat) : Obj := .map (d.L.map entW).toArray d.clk
def itemsW (d : WDat) : List (Nat × It) := (d.mg, .ob (mapW d)) :: d.L.flatMap rowI
def wM (d : WDat) : Ar := lget (itemsW d)
def WrOk (p : Wr) : Prop := (p.row = none → p.ws = []) ∧ (∀ x, p.row = some x → p.rest.length = x.2 ∧ p.ws.length + x.2 ≤ Go.maxLen) ∧ keyW p.key
structure WOk (d : WDat) : Prop where
  nodup : ((itemsW d).map (·.1)).Nodup
  rows : ∀ p ∈ d.L, WrOk p
  keys : (d.L.map Wr.key).Nodup
  born : (d.L.map Wr.born).Nodup
  bclk : ∀ p ∈ d.L, p.born < d.clk
def findW (L : List Wr) (k : Int × Int) : Option Wr := L.find? fun p => decide (p.key = k)
def wsOf (L : List Wr) (k : Int × Int) : List (List Nat) := match findW L k with
  | some p => p.ws
  | none => []
theorem w_map {d : WDat} : wM d d.mg = some (.ob (mapW d)) := by unfold wM itemsW; rw [lget_same]
theorem w_row {d : WDat} (h : WOk d) {p : Wr} (hp : p ∈ d.L) {x : Nat × Nat} (hx : p.row = some x) : wM d x.1 = some (.cells 40 (rowC wsE p.ws p.rest)) :=
  lget_mem h.nodup (by unfold itemsW rowI; simp only [List.mem_cons, List.mem_flatMap]; exact .inr ⟨p, hp, by rw [hx]; simp⟩)
theorem w_new (g : Nat) : (fun k => (Ar.upd (fun _ => none) g (some (.ob (.map #[] 0)))) k) = wM ⟨g, 0, []⟩ ∧ WOk ⟨g, 0, []⟩ := by
  refine ⟨?_, ⟨by simp [itemsW], fun p hp => absurd hp List.not_mem_nil, List.nodup_nil, List.nodup_nil, fun p hp => absurd hp List.not_mem_nil⟩⟩
  funext k
  unfold wM itemsW mapW
  simp only [lget_cons, upd_if, List.flatMap_nil, List.map_nil]
  rfl
theorem ent_keysW {d : WDat} (h : WOk d) : ∀ e ∈ d.L.map entW, ∃ l, keyOf Try.prog 39 e.key = some l := fun e he => by
  obtain ⟨p, hp, rfl⟩ := List.mem_map.1 he
  exact place_key p.key (h.rows p hp).2.2
theorem findW_some {L : List Wr} (h : (L.map Wr.key).Nodup) {p : Wr} (hp : p ∈ L) : findW L p.key = some p := by
  unfold findW
  induction L with
  | nil => cases hp
  | cons y r ih =>
    rw [List.map_cons, List.nodup_cons] at h
    rw [List.find?_cons]
    rcases List.mem_cons.1 hp with rfl | hp
    · simp
    · have : y.key ≠ p.key := fun e => h.1 (by rw [e]; exact List.mem_map_of_mem hp)
      simp [this, ih h.2 hp]
theorem findW_none {L : List Wr} {k : Int × Int} (h : ∀ x ∈ L, x.key ≠ k) : findW L k = none := List.find?_eq_none.2 fun x hx => by simpa using h x hx
theorem wsOf_mem {L : List Wr} (h : (L.map Wr.key).Nodup) {p : Wr} (hp : p ∈ L) : wsOf L p.key = p.ws := by unfold wsOf; rw [findW_some h hp]
theorem wsOf_no {L : List Wr} {k : Int × Int} (h : ∀ x ∈ L, x.key ≠ k) : wsOf L k = [] := by unfold wsOf; rw [findW_none h]
theorem wsOf_mid {A B : List Wr} {q : Wr} (k : Int × Int) : wsOf (A ++ q :: B) k = match findW A k with
    | some p => p.ws
    | none => match decide (q.key = k) with
      | true => q.ws
      | false => wsOf B k := by
  unfold wsOf findW
  rw [List.find?_append]
  cases h1 : A.find? fun p => decide (p.key = k) with
  | some p => rfl
  | none =>
    rw [Option.none_or, List.find?_cons]
    cases h2 : decide (q.key = k) <;> rfl

def WDat.put (d : WDat) (A B : List Wr) (q : Wr) : WDat := { d with L := A ++ q :: B }
def openW (d : WDat) (X R : List (Nat × It)) : List (Nat × It) := (d.mg, .ob (mapW d)) :: (X ++ R)
theorem itemsW_open {d : WDat} {A B : List Wr} {p : Wr} (hL : d.L = A ++ p :: B) : (itemsW d).Perm (openW d (rowI p) ((A ++ B).flatMap rowI)) := by
  unfold itemsW openW
  rw [hL]
  refine List.Perm.cons _ ?_
  rw [List.flatMap_append, List.flatMap_cons, List.flatMap_append]
  rw [← List.append_assoc, ← List.append_assoc]
  exact List.Perm.append_right _ List.perm_append_comm
theorem w_open {d : WDat} (h : WOk d) {A B : List Wr} {p : Wr} (hL : d.L = A ++ p :: B) : wM d = lget (openW d (rowI p) ((A ++ B).flatMap rowI)) := lget_perm (itemsW_open hL) h.nodup
theorem w_is {d : WDat} {l : List (Nat × It)} {M : Ar} (hp : (itemsW d).Perm l) (hn : (l.map (·.1)).Nodup) (h : ∀ k, M k = lget l k) : M = wM d := by
  funext k
  rw [h, ← lget_perm hp ((nodup_perm hp).2 hn)]
  rfl
def offW (M : Ar) (row : Option (Nat × Nat)) : Ar := match row with
  | none => M
  | some x => M.upd x.1 none
theorem w_put {d : WDat} (h : WOk d) {A B : List Wr} {p q : Wr} (hL : d.L = A ++ p :: B) {g1 c1 : Nat} (hf : offW (wM d) p.row g1 = none) (hq : q.row = some (g1, c1)) (hk : q.key = p.key) (hb : q.born = p.born) (hok : WrOk q) :
    WOk (d.put A B q) ∧ (updR (offW (wM d) p.row) (some (g1, c1)) (.cells 40 (rowC wsE q.ws q.rest))).upd d.mg (some (.ob (mapW (d.put A B q)))) = wM (d.put A B q) := by
  have hop := w_open h hL
  have hnd := (nodup_perm (itemsW_open hL)).1 h.nodup
  have hnew : (itemsW (d.put A B q)).Perm (openW (d.put A B q) (rowI q) ((A ++ B).flatMap rowI)) := itemsW_open rfl
  have hq1 : rowI q = [(g1, .cells 40 (rowC wsE q.ws q.rest))] := by unfold rowI; rw [hq]
  unfold openW at hop hnd
  generalize (A ++ B).flatMap rowI = R at *
  have hmg := w_map (d := d)
  have hkeys : ((d.put A B q).L.map Wr.key).Nodup := by
    have := h.keys
    rw [hL] at this
    show ((A ++ q :: B).map Wr.key).Nodup
    rw [List.map_append, List.map_cons, hk, ← List.map_cons, ← List.map_append]
    exact this
  have hborn : ((d.put A B q).L.map Wr.born).Nodup := by
    have := h.born
    rw [hL] at this
    show ((A ++ q :: B).map Wr.born).Nodup
    rw [List.map_append, List.map_cons, hb, ← List.map_cons, ← List.map_append]
    exact this
  have hmem : p ∈ d.L := by rw [hL]; simp
  have hbc : ∀ x ∈ (d.put A B q).L, x.born < (d.put A B q).clk := fun x hx => by
    show x.born < d.clk
    rcases List.mem_append.1 hx with hx | hx
    · exact h.bclk x (by rw [hL]; simp [hx])
    · rcases List.mem_cons.1 hx with rfl | hx
      · rw [hb]; exact h.bclk p hmem
      · exact h.bclk x (by rw [hL]; simp [hx])
  have hrk : ∀ x ∈ (d.put A B q).L, WrOk x := fun x hx => by
    rcases List.mem_append.1 hx with hx | hx
    · exact h.rows x (by rw [hL]; simp [hx])
    · rcases List.mem_cons.1 hx with rfl | hx
      · exact hok
      · exact h.rows x (by rw [hL]; simp [hx])
  have hgo : g1 ≠ d.mg ∧ lget R g1 = none ∧ d.mg ∉ R.map (·.1) ∧ (R.map (·.1)).Nodup ∧ (∀ k, offW (wM d) p.row k = if k = d.mg then some (.ob (mapW d)) else lget R k) := by
    cases hr : p.row with
    | none =>
      rw [hr] at hf
      have hf : wM d g1 = none := hf
      have e0 : rowI p = [] := by unfold rowI; rw [hr]
      rw [e0] at hop hnd
      simp only [List.nil_append, List.map_cons, List.nodup_cons] at hop hnd
      rw [hop, lget_cons] at hf
      by_cases e1 : g1 = d.mg
      · rw [if_pos e1] at hf; cases hf
      rw [if_neg e1] at hf
      exact ⟨e1, hf, hnd.1, hnd.2, fun k => by show wM d k = _; rw [hop, lget_cons]⟩
    | some y =>
      obtain ⟨g0, c0⟩ := y
      rw [hr] at hf
      have hf : (wM d).upd g0 none g1 = none := hf
      have e0 : rowI p = [(g0, .cells 40 (rowC wsE p.ws p.rest))] := by unfold rowI; rw [hr]
      rw [e0] at hop hnd
      simp only [List.cons_append, List.nil_append, List.map_cons, List.nodup_cons, List.mem_cons, not_or] at hop hnd
      obtain ⟨⟨d1, d2⟩, d3, d4⟩ := hnd
      have hR0 : lget R g0 = none := lget_none.2 d3
      have hoff : ∀ k, (wM d).upd g0 none k = if k = d.mg then some (.ob (mapW d)) else lget R k := fun k => by
        rw [upd_if, hop]
        simp only [lget_cons]
        by_cases e1 : k = g0
        · subst e1
          rw [if_pos rfl, if_neg (Ne.symm d1), hR0]
        · rw [if_neg e1]
          simp [e1]
      rw [hoff] at hf
      by_cases e1 : g1 = d.mg
      · rw [if_pos e1] at hf; cases hf
      rw [if_neg e1] at hf
      exact ⟨e1, hf, d2, d4, hoff⟩
  obtain ⟨n1, n2, n3, n4, hoff⟩ := hgo
  have hnd' : ((openW (d.put A B q) (rowI q) R).map (·.1)).Nodup := by
    unfold openW
    rw [hq1]
    simp only [List.cons_append, List.nil_append, List.map_cons, List.nodup_cons, List.mem_cons, not_or]
    exact ⟨⟨Ne.symm n1, n3⟩, lget_none.1 n2, n4⟩
  refine ⟨⟨(nodup_perm hnew).2 hnd', hrk, hkeys, hborn, hbc⟩, w_is hnew hnd' fun k => ?_⟩
  show ((offW (wM d) p.row).upd g1 _).upd d.mg _ k = _
  simp only [upd_if, hoff]
  unfold openW
  rw [hq1]
  simp only [List.cons_append, List.nil_append, lget_cons]
  show (if k = d.mg then _ else _) = if k = d.mg then _ else _
  by_cases e1 : k = d.mg
  · simp [e1]
  · simp [e1]
def WDat.add (d : WDat) (k : Int × Int) : WDat := { d with clk := d.clk + 1, L := d.L ++ [⟨k, [], d.clk, none, []⟩] }
theorem w_add {d : WDat} (h : WOk d) {k : Int × Int} (hk : keyW k) (hno : ∀ p ∈ d.L, p.key ≠ k) : WOk (d.add k) ∧ (wM d).upd d.mg (some (.ob (mapW (d.add k)))) = wM (d.add k) := by
  have hi : itemsW (d.add k) = (d.mg, .ob (mapW (d.add k))) :: d.L.flatMap rowI := by
    unfold itemsW
    show _ :: (d.L ++ [_]).flatMap rowI = _
    rw [List.flatMap_append]
    simp [rowI, WDat.add]
  have hnd := h.nodup
  have hop : ∀ j, wM d j = lget ((d.mg, .ob (mapW d)) :: d.L.flatMap rowI) j := fun j => rfl
  unfold itemsW at hnd
  rw [List.map_cons] at hnd
  refine ⟨⟨by rw [hi]; exact hnd, fun p hp => ?_, ?_, ?_, fun p hp => ?_⟩, ?_⟩
  · rcases List.mem_append.1 hp with hp | hp
    · exact h.rows p hp
    · rw [List.mem_singleton.1 hp]
      exact ⟨fun _ => rfl, (fun x hx => by cases hx), hk⟩
  · show ((d.L ++ [_]).map Wr.key).Nodup
    rw [List.map_append, List.nodup_append]
    refine ⟨h.keys, by simp, fun a ha b hb e => ?_⟩
    obtain ⟨p, hp, rfl⟩ := List.mem_map.1 ha
    have hb' : b = k := by simpa using hb
    exact hno p hp (e.trans hb')
  · show ((d.L ++ [_]).map Wr.born).Nodup
    rw [List.map_append, List.nodup_append]
    refine ⟨h.born, by simp, fun a ha b hb' e => ?_⟩
    obtain ⟨p, hp, rfl⟩ := List.mem_map.1 ha
    have hb2 : b = d.clk := by simpa using hb'
    have := h.bclk p hp
    omega
  · show p.born < d.clk + 1
    rcases List.mem_append.1 hp with hp | hp
    · exact Nat.lt_succ_of_lt (h.bclk p hp)
    · rw [List.mem_singleton.1 hp]; exact Nat.lt_succ_self _
  · funext j
    show _ = lget (itemsW (d.add k)) j
    rw [hi, upd_if, hop]
    simp only [lget_cons]
    by_cases e : j = d.mg <;> simp [e]
theorem add_ws {d : WDat} {k : Int × Int} (k' : Int × Int) : wsOf (d.add k).L k' = wsOf d.L k' := by
  show wsOf (d.L ++ [_]) k' = _
  rw [wsOf_mid]
  unfold wsOf
  cases h : findW d.L k' with
  | some p => rfl
  | none => cases decide (k = k') <;> rfl
def WDat.del (d : WDat) (A B : List Wr) : WDat := { d with L := A ++ B }
theorem w_del {d : WDat} (h : WOk d) {A B : List Wr} {p : Wr} (hL : d.L = A ++ p :: B) : WOk (d.del A B) ∧ (offW (wM d) p.row).upd d.mg (some (.ob (mapW (d.del A B)))) = wM (d.del A B) := by
  have hsl : (A ++ B).Sublist d.L := by rw [hL]; exact List.Sublist.append_left (List.sublist_cons_self _ _) _
  have hop := w_open h hL
  have hnd := (nodup_perm (itemsW_open hL)).1 h.nodup
  have hi : itemsW (d.del A B) = (d.mg, .ob (mapW (d.del A B))) :: (A ++ B).flatMap rowI := rfl
  unfold openW at hop hnd
  generalize (A ++ B).flatMap rowI = R at *
  have hgo : d.mg ∉ R.map (·.1) ∧ (R.map (·.1)).Nodup ∧ (∀ k, offW (wM d) p.row k = if k = d.mg then some (.ob (mapW d)) else lget R k) := by
    cases hr : p.row with
    | none =>
      have e0 : rowI p = [] := by unfold rowI; rw [hr]
      rw [e0] at hop hnd
      simp only [List.nil_append, List.map_cons, List.nodup_cons] at hop hnd
      exact ⟨hnd.1, hnd.2, fun k => by show wM d k = _; rw [hop, lget_cons]⟩
    | some y =>
      obtain ⟨g0, c0⟩ := y
      have e0 : rowI p = [(g0, .cells 40 (rowC wsE p.ws p.rest))] := by unfold rowI; rw [hr]
      rw [e0] at hop hnd
      simp only [List.cons_append, List.nil_append, List.map_cons, List.nodup_cons, List.mem_cons, not_or] at hop hnd
      obtain ⟨⟨d1, d2⟩, d3, d4⟩ := hnd
      have hR0 : lget R g0 = none := lget_none.2 d3
      refine ⟨d2, d4, fun k => ?_⟩
      show (wM d).upd g0 none k = _
      rw [upd_if, hop]
      simp only [lget_cons]
      by_cases e1 : k = g0
      · subst e1
        rw [if_pos rfl, if_neg (Ne.symm d1), hR0]
      · rw [if_neg e1]
        simp [e1]
  obtain ⟨n3, n4, hoff⟩ := hgo
  have hnd' : ((itemsW (d.del A B)).map (·.1)).Nodup := by rw [hi, List.map_cons, List.nodup_cons]; exact ⟨n3, n4⟩
  refine ⟨⟨hnd', fun x hx => h.rows x (hsl.subset hx), h.keys.sublist (hsl.map _), h.born.sublist (hsl.map _), fun x hx => h.bclk x (hsl.subset hx)⟩, ?_⟩
  funext k
  show _ = lget (itemsW (d.del A B)) k
  rw [hi, upd_if, hoff, lget_cons]
  by_cases e1 : k = d.mg <;> simp [e1]
theorem del_ws {d : WDat} (h : WOk d) {A B : List Wr} {p : Wr} (hL : d.L = A ++ p :: B) (k' : Int × Int) : wsOf (d.del A B).L k' = match decide (k' = p.key) with
    | true => []
    | false => wsOf d.L k' := by
  have hk := h.keys
  rw [hL, List.map_append, List.map_cons, List.nodup_append] at hk
  obtain ⟨k1, k2, k3⟩ := hk
  rw [List.nodup_cons] at k2
  cases hq : decide (k' = p.key) with
  | true =>
    have hq := of_decide_eq_true hq
    refine wsOf_no fun x hx e => ?_
    rw [hq] at e
    rcases List.mem_append.1 hx with hx | hx
    · exact k3 _ (List.mem_map_of_mem hx) _ List.mem_cons_self e
    · exact k2.1 (by rw [← e]; exact List.mem_map_of_mem hx)
  | false =>
    have hq := of_decide_eq_false hq
    dsimp only
    rw [hL, wsOf_mid, decide_eq_false (Ne.symm hq)]
    show wsOf (A ++ B) k' = _
    unfold wsOf findW
    rw [List.find?_append]
    cases h1 : A.find? fun p => decide (p.key = k') <;> rfl
theorem put_ws {d : WDat} (h : WOk d) {A B : List Wr} {p q : Wr} (hL : d.L = A ++ p :: B) (hk0 : q.key = p.key) (k' : Int × Int) : wsOf (d.put A B q).L k' = match decide (k' = p.key) with
    | true => q.ws
    | false => wsOf d.L k' := by
  have hk := h.keys
  rw [hL, List.map_append, List.map_cons, List.nodup_append] at hk
  obtain ⟨k1, k2, k3⟩ := hk
  show wsOf (A ++ q :: B) k' = _
  rw [hL, wsOf_mid, wsOf_mid, hk0]
  cases hq : decide (k' = p.key) with
  | true =>
    have hq := of_decide_eq_true hq
    subst hq
    rw [findW_none (L := A) (fun x hx e => k3 _ (List.mem_map_of_mem hx) _ List.mem_cons_self e), decide_eq_true rfl]
  | false =>
    have hq := of_decide_eq_false hq
    rw [decide_eq_false (Ne.symm hq)]
theorem keys_atW {d : WDat} (h : WOk d) {A B : List Wr} {p : Wr} (hL : d.L = A ++ p :: B) {j : Nat} {e : MapEntry} (hj : (d.L.map entW)[j]? = some e) (hk : e.key = placeV p.key.1 p.key.2) : j = A.length ∧ e = entW p := by
  rw [List.getElem?_map] at hj
  cases hx : d.L[j]? with
  | none => rw [hx] at hj; cases hj
  | some x =>
    rw [hx] at hj
    simp only [Option.map_some, Option.some.injEq] at hj
    subst hj
    have hkk : x.key = p.key := placeV_inj hk
    have hAl : d.L[A.length]? = some p := by rw [hL]; simp
    have h1 : (d.L.map Wr.key)[j]? = some p.key := by rw [List.getElem?_map, hx, Option.map_some, hkk]
    have h2 : (d.L.map Wr.key)[A.length]? = some p.key := by rw [List.getElem?_map, hAl, Option.map_some]
    have hjA : j = A.length := (List.getElem?_inj (List.getElem?_eq_some_iff.1 h1).1 h.keys).1 (h1.trans h2.symm)
    subst hjA
    rw [hAl] at hx
    injection hx with hx
    exact ⟨rfl, by rw [hx]⟩
end Go.Proofs.Ytjgihniedhmpeaa.V
namespace Go.Proofs.Ytjgihniedhmpeaa.V
open Go.RowKit
attribute [local irreducible] Fn FnN ArC FnR ArL

section
variable {s : St} {K : D → St → Prop}
theorem w_mem {L : List Wr} (k : Int × Int) : (∃ p ∈ L, p.key = k) ∨ ∀ p ∈ L, p.key ≠ k := by
  by_cases h : ∃ p ∈ L, p.key = k
  · exact .inl h
  · exact .inr fun p hp e => h ⟨p, hp, e⟩
theorem op_lookW {gg : Bool} {o : Oper} {x y : Operand} {i : Nat} {S : Nat → Prop} {d : WDat} {k : Int × Int} (ho : o.op = .lookup 37 x y false)
    (hx : evD s x = .v (.map (some d.mg))) (hk : evD s y = .agg (plC k)) (hid : lget s.H i = some (arL S (wM d))) (hd : WOk d) (hkw : keyW k)
    (h : ∀ row rest, (row = none → wsOf d.L k = []) → (∀ x, row = some x → wM d x.1 = some (.cells 40 (rowC wsE (wsOf d.L k) rest))) → K (.v (slV row (wsOf d.L k).length)) s) : OpVC Try.prog gg o s K := by
  obtain ⟨lk, hlk⟩ := place_key k hkw
  refine op_lookupA (i := i) (z := .slice none 0 0) (L := d.L.map entW) (vs := [.int .i64 k.1, .int .u32 k.2]) ho Try.underlying37 (by kernel_rfl) place_law hx (hk.trans rfl) hid w_map hlk (ent_keysW hd) (fun hno => ?_) (fun en he hek => ?_)
  · have e : wsOf d.L k = [] := wsOf_no fun p hp e => hno (entW p) (List.mem_map_of_mem hp) (by unfold entW placeV; rw [e])
    have := h none [] (fun _ => e) (fun x hx => by cases hx)
    rw [e, slV_none] at this
    exact this
  · obtain ⟨p, hp, rfl⟩ := List.mem_map.1 he
    have hpk : p.key = k := placeV_inj (k := p.key) (k' := k) hek
    have e : wsOf d.L k = p.ws := by rw [← hpk, wsOf_mem hd.keys hp]
    have := h p.row p.rest (fun hr => by rw [e]; exact (hd.rows p hp).1 hr) (fun x hx => by rw [e]; exact w_row hd hp hx)
    rw [e] at this
    exact this
theorem op_entryW {o : Oper} {x y : Operand} {i : Nat} {S : Nat → Prop} {d : WDat} {k : Int × Int} (ho : o.op = .mapEntry 37 x y)
    (hx : evD s x = .v (.map (some d.mg))) (hk : evD s y = .agg (plC k)) (hid : lget s.H i = some (arL S (wM d))) (hd : WOk d) (hkw : keyW k)
    (h : ∀ d1 A B p, WOk d1 → d1.mg = d.mg → d1.L = A ++ p :: B → p.key = k → p.ws = wsOf d.L k → (∀ k', wsOf d1.L k' = wsOf d.L k') → K (.tup [.v (slV p.row p.ws.length), .v (goInt p.born)]) ⟨s.F, (i, arL S (wM d1)) :: s.H, s.nx, s.G⟩) : OpVC Try.prog false o s K := by
  obtain ⟨lk, hlk⟩ := place_key k hkw
  refine op_entryA (i := i) (z := .slice none 0 0) (L := d.L.map entW) (vs := [.int .i64 k.1, .int .u32 k.2]) ho Try.underlying37 (by kernel_rfl) place_law hx (hk.trans rfl) hid w_map hlk (ent_keysW hd) (fun hno => ?_) (fun j en he hek => ?_)
  · have hno' : ∀ p ∈ d.L, p.key ≠ k := fun p hp e => hno (entW p) (List.mem_map_of_mem hp) (by unfold entW placeV; rw [e])
    obtain ⟨a1, a2⟩ := w_add hd hkw hno'
    have e : wsOf d.L k = [] := wsOf_no hno'
    have := h (d.add k) d.L [] ⟨k, [], d.clk, none, []⟩ a1 rfl rfl rfl e.symm add_ws
    rw [← a2] at this
    have em : mapW (d.add k) = .map (d.L.map entW ++ [({ key := .agg [Value.int .i64 k.1, .int .u32 k.2].toArray, val := .slice none 0 0, born := d.clk } : MapEntry)]).toArray (d.clk + 1) := by
      unfold mapW
      show Obj.map ((d.L ++ [_]).map entW).toArray (d.clk + 1) = _
      rw [List.map_append]
      show Obj.map (d.L.map entW ++ [(⟨_, slV none 0, _⟩ : MapEntry)]).toArray (d.clk + 1) = _
      rw [slV_none]
      rfl
    rw [em] at this
    have e2 : (⟨k, [], d.clk, none, []⟩ : Wr).ws.length = 0 := rfl
    rw [e2, slV_none] at this
    exact this
  · obtain ⟨p, hp, rfl⟩ := List.mem_map.1 (List.mem_of_getElem? he)
    have hpk : p.key = k := placeV_inj (k := p.key) (k' := k) hek
    obtain ⟨A, B, hL⟩ := List.append_of_mem hp
    have := h d A B p hd rfl hL hpk (by rw [← hpk, wsOf_mem hd.keys hp]) (fun _ => rfl)
    have hself : (wM d).upd d.mg (some (.ob (.map (d.L.map entW).toArray d.clk))) = wM d := by
      funext k'
      rw [upd_if]
      by_cases e1 : k' = d.mg
      · rw [if_pos e1, e1]; exact w_map.symm
      · rw [if_neg e1]
    rw [hself]
    exact this
theorem op_delW {o : Oper} {x y : Operand} {i : Nat} {S : Nat → Prop} {d : WDat} {k : Int × Int} {t2 : TypeId} (ho : o.op = .call { callee := .builtin .delete, args := #[x, y], argTypes := #[37, t2] })
    (hx : evD s x = .v (.map (some d.mg))) (hk : evD s y = .agg (plC k)) (hid : lget s.H i = some (arL S (wM d))) (hd : WOk d) (hkw : keyW k)
    (h : ∀ S' X d', WOk d' → d'.mg = d.mg → (∀ k', wsOf d'.L k' = match decide (k' = k) with
      | true => []
      | false => wsOf d.L k') → K (.v (.tuple #[])) ⟨s.F, (i, arL S' (wM d')) :: (i, X) :: s.H, s.nx, s.G⟩) : OpVC Try.prog false o s K := by
  obtain ⟨lk, hlk⟩ := place_key k hkw
  rcases w_mem (L := d.L) k with ⟨p, hp, hpk⟩ | hno
  · obtain ⟨A, B, hL⟩ := List.append_of_mem hp
    have hmo : offW (wM d) p.row d.mg = some (.ob (mapW d)) := by
      cases hr : p.row with
      | none => exact w_map
      | some x =>
        show (wM d).upd x.1 none d.mg = _
        have hw := w_row hd hp hr
        rw [upd_if, if_neg (fun e => by rw [← e, w_map] at hw; cases hw), w_map]
    refine op_drop (i := i) (M' := offW (wM d) p.row) hid (fun k' x' hx' => ?_) fun S' => ?_
    · cases hr : p.row with
      | none => rw [hr] at hx'; exact hx'
      | some y =>
        rw [hr] at hx'
        have hx' : (wM d).upd y.1 none k' = some x' := hx'
        rw [upd_if] at hx'
        split at hx'
        · cases hx'
        · exact hx'
    refine op_delMapA (i := i) (g := d.mg) (L := d.L.map entW) (vs := [.int .i64 k.1, .int .u32 k.2]) ho Try.underlying37 place_law (hx.trans rfl) (hk.trans rfl) (lget_same _ _ _) hmo hlk (ent_keysW hd) (fun hno => ?_) (fun j en he hek => ?_)
    · exact absurd (by unfold entW placeV; rw [hpk]) (hno (entW p) (List.mem_map_of_mem hp))
    · obtain ⟨rfl, rfl⟩ := keys_atW hd hL he (by rw [hek, hpk]; rfl)
      obtain ⟨a1, a2⟩ := w_del hd hL
      have em : mapW (d.del A B) = .map ((d.L.map entW).eraseIdx A.length).toArray d.clk := by
        unfold mapW
        show Obj.map ((A ++ B).map entW).toArray d.clk = _
        rw [hL, List.map_append, List.map_append, List.map_cons, List.eraseIdx_append_of_length_le (by simp)]
        simp
      rw [em] at a2
      have := h S' (arL S' (offW (wM d) p.row)) (d.del A B) a1 rfl (fun k' => by rw [← hpk]; exact del_ws hd hL k')
      rw [← a2] at this
      exact this
  · refine op_drop (i := i) (M' := wM d) hid (fun _ _ h => h) fun S' => ?_
    refine op_delMapA (i := i) (g := d.mg) (L := d.L.map entW) (vs := [.int .i64 k.1, .int .u32 k.2]) ho Try.underlying37 place_law (hx.trans rfl) (hk.trans rfl) (lget_same _ _ _) w_map hlk (ent_keysW hd) (fun _ => ?_) (fun j en he hek => ?_)
    · have hself : (wM d).upd d.mg (some (.ob (.map (d.L.map entW).toArray d.clk))) = wM d := by
        funext k'
        rw [upd_if]
        by_cases e1 : k' = d.mg
        · rw [if_pos e1, e1]; exact w_map.symm
        · rw [if_neg e1]
      rw [hself]
      refine h S' _ d hd rfl fun k' => ?_
      cases hq : decide (k' = k) with
      | true =>
        have hq := of_decide_eq_true hq
        subst hq
        exact wsOf_no hno
      | false => rfl
    · obtain ⟨p, hp, rfl⟩ := List.mem_map.1 (List.mem_of_getElem? he)
      exact absurd (placeV_inj (k := p.key) (k' := k) hek) (hno p hp)
theorem off_map {d : WDat} (h : WOk d) {p : Wr} (hp : p ∈ d.L) : offW (wM d) p.row d.mg = some (.ob (mapW d)) := by
  cases hr : p.row with
  | none => exact w_map
  | some x =>
    show (wM d).upd x.1 none d.mg = _
    have hw := w_row h hp hr
    rw [upd_if, if_neg (fun e => by rw [← e, w_map] at hw; cases hw), w_map]
theorem off_put {d : WDat} (h : WOk d) {p : Wr} (hp : p ∈ d.L) {g1 c1 : Nat} (hf : offW (wM d) p.row g1 = none) (X : It) : updR (offW (wM d) p.row) (some (g1, c1)) X d.mg = some (.ob (mapW d)) := by
  have hm := off_map h hp
  show (offW (wM d) p.row).upd g1 _ d.mg = _
  rw [upd_if, if_neg (fun e => by rw [← e, hm] at hf; cases hf), hm]
theorem map_putW {d : WDat} {A B : List Wr} {p q : Wr} (hL : d.L = A ++ p :: B) (hk : q.key = p.key) (hb : q.born = p.born) : mapW (d.put A B q) = .map ((d.L.map entW).set A.length { entW p with val := slV q.row q.ws.length }).toArray d.clk := by
  unfold mapW
  show Obj.map ((A ++ q :: B).map entW).toArray d.clk = _
  rw [hL, List.map_append, List.map_append, List.map_cons, List.map_cons]
  have e : (A.map entW ++ entW p :: B.map entW).set A.length { entW p with val := slV q.row q.ws.length } = A.map entW ++ entW q :: B.map entW := by
    rw [List.set_append_right _ _ (by simp)]
    simp [entW, hk, hb]
  rw [e]
theorem ent_at {d : WDat} {A B : List Wr} {p : Wr} (hL : d.L = A ++ p :: B) : (d.L.map entW)[A.length]? = some (entW p) := by rw [hL]; simp
theorem ent_born {d : WDat} (h : WOk d) : ((d.L.map entW).map (·.born)).Nodup := by
  rw [List.map_map]
  exact h.born
theorem stand_keyW {d : CDat} {T : List Pl} (h : CStand d T) {x : Pl} (hx : x ∈ T) : keyW x.key := by
  obtain ⟨p, hp, rfl⟩ := List.mem_map.1 (h.perm.mem_iff.2 hx)
  exact (h.ok.rows p hp).2.2
end

/-! ### What stands is what the map says -/
def wsT (T : List Pl) (k : Int × Int) : List (List Nat) := match findT T k with
  | some x => x.ws
  | none => []
theorem findT_ins {x : Pl} {k : Int × Int} : ∀ {T : List Pl}, (∀ y ∈ T, y.key ≠ x.key) → findT (insT x T) k = match decide (k = x.key) with
    | true => some x
    | false => findT T k
  | [], _ => by
    unfold insT findT
    rw [List.find?_cons]
    by_cases h : k = x.key
    · simp [h]
    · simp [h, Ne.symm h]
  | y :: r, hn => by
    have ih := findT_ins (x := x) (k := k) (T := r) fun z hz => hn z (List.mem_cons_of_mem _ hz)
    have hy := hn y List.mem_cons_self
    unfold insT
    cases decide (keyN x.key < keyN y.key) with
    | true =>
      show findT (x :: y :: r) k = _
      unfold findT
      rw [List.find?_cons]
      by_cases h : k = x.key
      · simp [h]
      · simp [h, Ne.symm h]
    | false =>
      show findT (y :: insT x r) k = _
      unfold findT at ih ⊢
      rw [List.find?_cons, List.find?_cons, ih]
      by_cases h : k = x.key
      · subst h
        simp [hy]
      · simp only [decide_eq_false h]
theorem findT_upd {y : Pl} {k : Int × Int} : ∀ {T : List Pl}, findT (updT T y) k = match decide (k = y.key) with
    | true => (findT T k).map fun _ => y
    | false => findT T k
  | [] => by cases decide (k = y.key) <;> rfl
  | z :: r => by
    have ih := findT_upd (y := y) (k := k) (T := r)
    unfold updT findT at ih ⊢
    rw [List.map_cons, List.find?_cons, List.find?_cons, ih]
    by_cases h : k = y.key
    · subst h
      by_cases hz : z.key = y.key
      · simp [hz]
      · simp [hz]
    · by_cases hz : z.key = y.key
      · simp [hz, h, Ne.symm h]
      · simp [hz, h]
theorem wsT_ins {x : Pl} {T : List Pl} (hn : ∀ y ∈ T, y.key ≠ x.key) (k : Int × Int) : wsT (insT x T) k = match decide (k = x.key) with
    | true => x.ws
    | false => wsT T k := by
  unfold wsT
  rw [findT_ins hn]
  cases decide (k = x.key) <;> rfl
theorem wsT_upd {x y : Pl} {T : List Pl} (hf : findT T y.key = some x) (k : Int × Int) : wsT (updT T y) k = match decide (k = y.key) with
    | true => y.ws
    | false => wsT T k := by
  unfold wsT
  rw [findT_upd]
  cases hq : decide (k = y.key) with
  | true =>
    have hq := of_decide_eq_true hq
    subst hq
    rw [hf]
    rfl
  | false => rfl
theorem wsT_none {T : List Pl} {k : Int × Int} (h : findT T k = none) : ∀ y ∈ T, y.key ≠ k := fun y hy e => by
  have := List.find?_eq_none.1 h y hy
  simp [e] at this
theorem keeps_want {c : Nat → Int} {now : Int} {T : List Pl} (hs : SortT T) (ht : TOk T) (hw : (waitsT T : Int) ≤ max 0 (c 28)) (hl : (T.length : Int) ≤ max 0 (c 27)) (k : Int × Int) (b : List Nat) :
    match decide ((wantT c now T k b).1.2 = 0) with
    | true => (wantT c now T k b).1.1 = decide ((wsT T k).length = 0) ∧ waitsT (wantT c now T k b).2 = waitsT T + 1 ∧ ((waitsT T : Int) + 1 ≤ max 0 (c 28)) ∧ ((wantT c now T k b).2.length : Int) ≤ max 0 (c 27) ∧ ∀ k', wsT (wantT c now T k b).2 k' = match decide (k' = k) with
      | true => wsT T k ++ [b]
      | false => wsT T k'
    | false => (wantT c now T k b).2 = T := by
  have hwt := want_waits (c := c) (now := now) hs k b
  cases hq : findT T k with
  | none =>
    have hno := wsT_none hq
    have e0 : wsT T k = [] := by unfold wsT; rw [hq]
    cases h1 : decide ((waitsT T : Int) ≥ c 28) with
    | true =>
      have e : wantT c now T k b = ((false, 7), T) := by unfold wantT; rw [hq]; dsimp only; rw [h1]
      rw [e]; rfl
    | false =>
      cases h2 : decide ((T.length : Int) ≥ c 27) with
      | true =>
        have e : wantT c now T k b = ((false, 7), T) := by unfold wantT; rw [hq]; dsimp only; rw [h1, h2]
        rw [e]; rfl
      | false =>
        have e : wantT c now T k b = ((true, 0), insT ⟨k.1, k.2, false, mac0, 1, now + clampW (c 30), [b]⟩ T) := by unfold wantT; rw [hq]; dsimp only; rw [h1, h2]
        have h1 := of_decide_eq_false h1
        have h2 := of_decide_eq_false h2
        rw [e] at hwt ⊢
        refine ⟨by rw [e0]; rfl, hwt, by omega, ?_, fun k' => ?_⟩
        · dsimp only
          rw [insT_len]
          omega
        · dsimp only
          rw [wsT_ins (x := ⟨k.1, k.2, false, mac0, 1, now + clampW (c 30), [b]⟩) hno, e0]
          rfl
  | some x =>
    obtain ⟨hx, hxk⟩ := findT_mem hq
    have e0 : wsT T k = x.ws := by unfold wsT; rw [hq]
    cases hkn : x.known with
    | true =>
      rw [wantT_known hq hkn]
      rfl
    | false =>
      cases h1 : decide ((waitsT T : Int) ≥ c 28) with
      | true =>
        rw [wantT_full hq hkn h1]
        rfl
      | false =>
        have e := wantT_old (now := now) (b := b) hq hkn h1
        have h1 := of_decide_eq_false h1
        rw [e] at hwt ⊢
        have hne := ((ht x hx).1 hkn).1
        refine ⟨?_, hwt, by omega, ?_, fun k' => ?_⟩
        · rw [e0]
          refine (decide_eq_false ?_).symm
          intro h
          exact hne (List.eq_nil_of_length_eq_zero h)
        · dsimp only
          rw [updT_len]
          exact hl
        · dsimp only
          subst hxk
          rw [wsT_upd (x := x) (y := { x with ws := x.ws ++ [b] }) hq, e0]
          rfl
theorem keeps_learn {c : Nat → Int} {now : Int} {T : List Pl} (hs : SortT T) (hl : (T.length : Int) ≤ max 0 (c 27)) (k : Int × Int) (m : Nat → Int) (add : Bool) :
    match (learnT c now T k m add).1.2 with
    | true => (learnT c now T k m add).1.1 = wsT T k ∧ ((learnT c now T k m add).2.length : Int) ≤ max 0 (c 27) ∧ ∀ k', wsT (learnT c now T k m add).2 k' = match decide (k' = k) with
      | true => []
      | false => wsT T k'
    | false => (learnT c now T k m add).1.1 = [] ∧ (learnT c now T k m add).2 = T := by
  cases hq : findT T k with
  | none =>
    have hno := wsT_none hq
    have e0 : wsT T k = [] := by unfold wsT; rw [hq]
    cases add with
    | false =>
      have e : learnT c now T k m false = (([], false), T) := by unfold learnT; rw [hq]
      rw [e]
      exact ⟨rfl, rfl⟩
    | true =>
      cases h2 : decide ((T.length : Int) ≥ c 27) with
      | true =>
        have e : learnT c now T k m true = (([], false), T) := by unfold learnT; rw [hq]; dsimp only; rw [h2]
        rw [e]
        exact ⟨rfl, rfl⟩
      | false =>
        have e : learnT c now T k m true = (([], true), insT ⟨k.1, k.2, true, m, 0, now + clampW (c 29), []⟩ T) := by unfold learnT; rw [hq]; dsimp only; rw [h2]
        have h2 := of_decide_eq_false h2
        rw [e]
        refine ⟨e0.symm, ?_, fun k' => ?_⟩
        · dsimp only
          rw [insT_len]
          omega
        · dsimp only
          rw [wsT_ins (x := ⟨k.1, k.2, true, m, 0, now + clampW (c 29), []⟩) hno]
          rfl
  | some x =>
    obtain ⟨hx, hxk⟩ := findT_mem hq
    have e0 : wsT T k = x.ws := by unfold wsT; rw [hq]
    have e : learnT c now T k m add = ((x.ws, true), updT T ⟨k.1, k.2, true, m, 0, now + clampW (c 29), []⟩) := by unfold learnT; rw [hq]
    rw [e]
    refine ⟨e0.symm, ?_, fun k' => ?_⟩
    · dsimp only
      rw [updT_len]
      exact hl
    · dsimp only
      rw [wsT_upd (x := x) (y := ⟨k.1, k.2, true, m, 0, now + clampW (c 29), []⟩) hq]
      rfl
theorem tickX_some {c : Nat → Int} {now : Int} {x y : Pl} (h : tickX c now x = some y) : y.ws = x.ws ∧ y.key = x.key := by
  unfold tickX at h
  split at h
  · injection h with h; subst h; exact ⟨rfl, rfl⟩
  · split at h
    · injection h with h; subst h; exact ⟨rfl, rfl⟩
    · cases h
theorem waits_tickE (c : Nat → Int) (now : Int) : ∀ T : List Pl, waitsT (tickT c now T) + lostT c now T = waitsT T
  | [] => rfl
  | x :: r => by
    have ih := waits_tickE c now r
    unfold tickT at ih ⊢
    rw [List.filterMap_cons]
    unfold lostT lostX
    cases hq : tickX c now x with
    | none => simp only [waitsT]; omega
    | some y =>
      have := (tickX_some hq).1
      simp only [waitsT, this]; omega
theorem wsT_tick {c : Nat → Int} {now : Int} : ∀ {T : List Pl}, (T.map Pl.key).Nodup → lostT c now T = 0 → ∀ k, wsT (tickT c now T) k = wsT T k
  | [], _, _, _ => rfl
  | x :: r, hn, hl, k => by
    rw [List.map_cons, List.nodup_cons] at hn
    have hl2 : lostX c now x + lostT c now r = 0 := hl
    have ih := wsT_tick (c := c) (now := now) hn.2 (by omega) k
    have hl1 : lostX c now x = 0 := by omega
    unfold tickT at ih ⊢
    rw [List.filterMap_cons]
    unfold lostX at hl1
    cases hq : tickX c now x with
    | some y =>
      obtain ⟨h1, h2⟩ := tickX_some hq
      dsimp only
      unfold wsT findT at ih ⊢
      rw [List.find?_cons, List.find?_cons, h2]
      cases hd : decide (x.key = k) with
      | true => exact h1
      | false => exact ih
    | none =>
      rw [hq] at hl1
      have hws : x.ws = [] := List.eq_nil_of_length_eq_zero hl1
      dsimp only
      rw [ih]
      unfold wsT findT
      rw [List.find?_cons]
      cases hd : decide (x.key = k) with
      | true =>
        have hd := of_decide_eq_true hd
        subst hd
        dsimp only
        rw [hws]
        cases hf : r.find? fun y => decide (y.key = x.key) with
        | none => rfl
        | some y =>
          exfalso
          have h1 := List.mem_of_find?_eq_some hf
          have h2 : y.key = x.key := by simpa using List.find?_some hf
          exact hn.1 (by rw [← h2]; exact List.mem_map_of_mem h1)
      | false => rfl
theorem asks_wait {c : Nat → Int} {now : Int} {T : List Pl} (hs : SortT T) (ht : TOk T) {k : Int × Int} (h : k ∈ asksT c now T) : wsT T k ≠ [] := by
  unfold asksT at h
  obtain ⟨x, hx, rfl⟩ := List.mem_map.1 h
  obtain ⟨hx, ha⟩ := List.mem_filter.1 hx
  have hkn : x.known = false := by
    unfold askX at ha
    simp only [Bool.and_eq_true, Bool.not_eq_true'] at ha
    exact ha.2.1
  unfold wsT
  rw [findT_some (sort_keys hs) hx]
  exact ((ht x hx).1 hkn).1
theorem asks_key {c : Nat → Int} {now : Int} {T : List Pl} {k : Int × Int} (h : k ∈ asksT c now T) : ∃ x ∈ T, x.key = k := by
  unfold asksT at h
  obtain ⟨x, hx, rfl⟩ := List.mem_map.1 h
  exact ⟨x, (List.mem_filter.1 hx).1, rfl⟩
end Go.Proofs.Ytjgihniedhmpeaa.V
namespace Go.Proofs.Ytjgihniedhmpeaa.V
open Go.RowKit
attribute [local irreducible] Fn FnN OpVC ArC FnR ArL

structure KI (c : Nat → Int) (cg wg n : Nat) (d : CDat) (T : List Pl) (w : WDat) : Prop where
  hcg : d.cg = cg
  hcc : d.c = c
  now : 0 ≤ d.now ∧ d.now ≤ n
  st : CStand d T
  ok : TOk T
  len : T.length ≤ n
  wts : waitsT T ≤ n
  wok : WOk w
  hmg : w.mg = wg
  ws : ∀ k, wsOf w.L k = wsT T k
  fr : ∀ k, ∀ b ∈ wsT T k, b.length ≤ 100
  q : (waitsT T : Int) ≤ max 0 (c 28)
  m : (T.length : Int) ≤ max 0 (c 27)
set_option maxHeartbeats 16000000 in
theorem cacheKeeps_fn (hlv : Fn Try.prog 13 [] fun d => d = boolD true) (c : Nat → Int) (hc : cfgOk c) (l : List CDe) (hl : desOk l) : Fn Try.prog 3 [.agg (cfgC c), desR l] fun d => d = boolD true := by
  refine fnE_of_wpc (H0 := [(0, arE), (1, arE)]) (nx0 := 2) (pl := [(36, [0, 2, 1, 3, 4, 5, 6, 7, 8, 9, 10, 11, 12, 13, 14, 15, 16, 17, 18, 19, 21, 22, 20, 23, 24, 25])]) (fun id o h => ?_) ttH ebH mxH Try.func3 rfl (by kernel_rfl) (Nat.le_of_ble_eq_true rfl) ?_
  · by_cases h0 : id = 0
    · subst h0; rw [lget_same] at h; injection h with h; exact ⟨by decide, h.symm⟩
    · rw [lget_ne _ _ h0] at h
      by_cases h1 : id = 1
      · subst h1; rw [lget_same] at h; injection h with h; exact ⟨by decide, h.symm⟩
      · rw [lget_ne _ _ h1] at h; cases h
  have hnew := cnew_ar c 0
  conv => whnf
  refine CallVC.ar (i := 0) hnew rfl rfl ?_
  rintro _ _ S0 ⟨cg, mg, hok0, rfl, rfl⟩
  have hst0 := stand_new _ _ _ _ hok0
  conv => whnf
  (refine pv_isNil (b := false) ttH rfl rfl rfl (.inl ⟨rfl, rfl⟩) ?_; conv => whnf)
  refine op_makeMapA (i := 1) rfl rfl fun wg S1 _ => ?_
  obtain ⟨hw1, hw2⟩ := w_new wg
  have hw1 : Ar.upd (fun _ => none) wg (some (.ob (.map #[] 0))) = wM ⟨wg, 0, []⟩ := hw1
  rw [hw1]
  conv => whnf
  refine ⟨Nat × CDat × List Pl × WDat × (Nat → Prop) × (Nat → Prop), fun x => ⟨[(8, intD x.1), (7, intD (waitsT x.2.2.1)), (6, .v (.map (some wg))), (5, ptrD cg), (2, .loc 2 0), (1, desR l)], [(0, arL x.2.2.2.2.1 (cacheM x.2.1)), (1, arL x.2.2.2.2.2 (wM x.2.2.2.1)), (2, .cells 33 (cfgC c))], 3, ([], 0)⟩,
    fun x => x.1 ≤ 80 ∧ KI c cg wg x.1 x.2.1 x.2.2.1 x.2.2.2.1, fun x => 80 - x.1, ⟨(0, cdat0 cg mg c 0, [], ⟨wg, 0, []⟩, S0, S1), [], [], ?_, ⟨Nat.zero_le _, ⟨rfl, rfl, ⟨Int.le_refl _, Int.le_refl _⟩, hst0, fun x hx => absurd hx List.not_mem_nil, Nat.le_refl _, Nat.le_refl _, hw2, rfl, fun _ => rfl, fun k b hb => (by cases hb), by show (0 : Int) ≤ _; omega, by show (0 : Int) ≤ _; omega⟩⟩⟩, ?_⟩
  · repeat' (first | exact trivial | exact .inl (DLe.refl _) | exact .inl (DLe.nil _ _) | (refine .inr ⟨rfl, _, ?_, rfl⟩; rfl) | exact rfl | exact .inl rfl | exact .inr ⟨rfl, rfl, rfl, rfl⟩ | exact Nat.zero_le _ | constructor)
  clear hst0 hok0 hnew hw1 hw2 mg S0 S1
  rintro ⟨k, d, T, w, S, S'⟩ ⟨hk, hI⟩
  dsimp only at hk hI ⊢
  have e0 : IntKind.i64.wrap ((k : Int) + 1) = ((k + 1 : Nat) : Int) := by rw [IntWalk.i64_in _ (by omega)]; omega
  conv => whnf
  refine Fork.intro (fun q => ?_) (fun q => ?_)
  rotate_left
  · conv => whnf
    (refine CallVC.pure (hlv) rfl ?_; rintro _ rfl; conv => whnf)
  have q' : k < l.length := by have := of_decide_eq_true q; omega
  conv => whnf
  refine Fork.intro (fun q2 => ?_) (fun q2 => ?_)
  rotate_left
  · conv => whnf
    (refine CallVC.pure (hlv) rfl ?_; rintro _ rfl; conv => whnf)
  have q2' : k < 80 := by have := of_decide_eq_true q2; omega
  obtain ⟨x, hx⟩ : ∃ x, l[k]? = some x := ⟨_, List.getElem?_eq_getElem q'⟩
  have hxo := hl x (List.mem_of_getElem? hx)
  conv => whnf
  refine ⟨rfl, ⟨by omega, by omega⟩, fun y hy => ?_⟩
  obtain rfl : x = y := Option.some.inj (hx.symm.trans hy)
  conv => whnf
  have hnow : d.now ≤ 80 := by have := hI.now.2; omega
  have hT80 : T.length ≤ 80 := Nat.le_trans hI.len hk
  have hW80 : waitsT T ≤ 80 := Nat.le_trans hI.wts hk
  have hwsx : wsOf w.L x.key = wsT T x.key := hI.ws x.key
  cases hkd : decide (x.kind = 0) with
  | true =>
    have hwant := want_ar d T hI.st hI.ok x.key hxo (x.b.take 100) (by rw [List.length_take]; omega) ⟨hI.now.1, by omega⟩ (by omega)
    have hkw := keeps_want (c := d.c) (now := d.now) hI.st.sort hI.ok (by rw [hI.hcc]; exact hI.q) (by rw [hI.hcc]; exact hI.m) x.key (x.b.take 100)
    have hlen := want_len (c := d.c) (now := d.now) T x.key (x.b.take 100)
    have hwok := want_ok (c := d.c) (now := d.now) hI.ok x.key (x.b.take 100)
    rw [hI.hcg] at hwant
    have hfew := fewC_fn x.b 100 (by decide)
    conv => whnf
    (refine CallVC.pure (hfew) rfl ?_; rintro _ rfl; conv => whnf)
    refine CallVC.ar (i := 0) hwant rfl rfl ?_
    rintro _ _ S1 ⟨rfl, d', rfl, f1, f2, f3, f4⟩
    generalize hg : wantT d.c d.now T x.key (x.b.take 100) = g at *
    obtain ⟨⟨ask, e⟩, T'⟩ := g
    dsimp only at hkw hlen hwok f4 ⊢
    conv => whnf
    cases he : decide (e = 0) with
    | true =>
      rw [he] at hkw
      obtain ⟨k1, k2, k3, k4, k5⟩ := hkw
      conv => whnf
      refine op_lookW (i := 1) (d := w) rfl (by rw [hI.hmg]; rfl) rfl rfl hI.wok hxo fun row rest r1 r2 => ?_
      conv => whnf
      obtain ⟨nn, hnn⟩ : ∃ nn, nn = (wsOf w.L x.key).length := ⟨_, rfl⟩
      have hn0 : row = none → nn = 0 := fun e => by rw [hnn, r1 e]; rfl
      have hz : (nn = 0 ∧ ask = true) ∨ (∃ m, nn = m + 1 ∧ ask = false) := by
        rw [hwsx] at hnn
        rw [k1, ← hnn]
        cases nn with
        | zero => exact .inl ⟨rfl, rfl⟩
        | succ m => exact .inr ⟨m, rfl, decide_eq_false (by omega)⟩
      rw [← hnn]
      clear hnn hwant
      rcases hz with ⟨rfl, rfl⟩ | ⟨m, rfl, rfl⟩
      all_goals
        refine pv_lenS (row := row) ttH hn0 rfl rfl ?_
        conv => whnf
        refine ⟨by decide, ?_⟩
        conv => whnf
        refine op_entryW (i := 1) (d := w) rfl (by rw [hI.hmg]; rfl) rfl rfl hI.wok hxo fun w1 A B p p1 p2 p3 p4 p5 p6 => ?_
        have hp80 : p.ws.length ≤ 80 := by
          rw [p5, hwsx]
          refine Nat.le_trans ?_ hW80
          unfold wsT
          cases hq : findT T x.key with
          | none => exact Nat.zero_le _
          | some y => exact waitsT_mem (findT_mem hq).1
        obtain ⟨b1, b2, _⟩ := p1.rows p (by rw [p3]; simp)
        have hpm : p ∈ w1.L := by rw [p3]; simp
        have hput : ∀ (g1 c1 : Nat) (rest2 : List Value), offW (wM w1) p.row g1 = none → rest2.length = c1 → (p.ws ++ [x.b.take 100]).length + c1 ≤ Go.maxLen → _ ∧ _ := fun g1 c1 rest2 h1 h2 h3 => w_put (q := ⟨p.key, p.ws ++ [x.b.take 100], p.born, some (g1, c1), rest2⟩) p1 p3 h1 rfl rfl rfl ⟨(fun e => by cases e), (fun x hx => by injection hx with hx; subst hx; exact ⟨h2, h3⟩), by rw [p4]; exact hxo⟩
        have hr0 := fun x => w_row (x := x) p1 hpm
        have hoff := fun g1 c1 (h1 : offW (wM w1) p.row g1 = none) X => off_put (c1 := c1) p1 hpm h1 X
        have hmp := fun (g1 c1 : Nat) (rest2 : List Value) => map_putW (q := ⟨p.key, p.ws ++ [x.b.take 100], p.born, some (g1, c1), rest2⟩) p3 rfl rfl
        have hI2 : ∀ (g1 c1 : Nat) (rest2 : List Value), WOk (w1.put A B ⟨p.key, p.ws ++ [x.b.take 100], p.born, some (g1, c1), rest2⟩) → KI c cg wg (k + 1) d' T' (w1.put A B ⟨p.key, p.ws ++ [x.b.take 100], p.born, some (g1, c1), rest2⟩) := fun g1 c1 rest2 hwk => by
          have hws : ∀ k', wsT T' k' = match decide (k' = x.key) with
              | true => wsT T x.key ++ [x.b.take 100]
              | false => wsT T k' := k5
          refine ⟨f1, f2.trans hI.hcc, ⟨by rw [f3]; exact hI.now.1, by rw [f3]; have := hI.now.2; omega⟩, f4, hwok, by have := hI.len; omega, by have := hI.wts; omega, hwk, p2.trans hI.hmg, fun k' => ?_, fun k' b hb => ?_, by rw [k2, ← hI.hcc]; omega, by rw [← hI.hcc]; exact k4⟩
          · rw [put_ws (q := ⟨p.key, p.ws ++ [x.b.take 100], p.born, some (g1, c1), rest2⟩) p1 p3 rfl k', hws, p4]
            cases decide (k' = x.key) with
            | true => show p.ws ++ _ = _; rw [p5, hwsx]
            | false => show wsOf w1.L k' = _; rw [p6, hI.ws]
          · rw [hws] at hb
            cases hq : decide (k' = x.key) with
            | true =>
              rw [hq] at hb
              rcases List.mem_append.1 hb with hb | hb
              · exact hI.fr _ _ hb
              · rw [List.mem_singleton.1 hb, List.length_take]; omega
            | false =>
              rw [hq] at hb
              exact hI.fr _ _ hb
        have ew1 : IntKind.i64.wrap (((waitsT T : Nat) : Int) + 1) = ((waitsT T' : Nat) : Int) := by rw [k2, IntWalk.i64_in _ (by omega)]; omega
        cases hr : p.row with
        | none =>
          have ew := b1 hr
          rw [hr] at hput hoff
          dsimp only [offW] at hput hoff
          rw [ew, slV_none]
          conv => whnf
          refine ⟨List Nat, wsE, p.ws ++ [x.b.take 100], by rw [ew]; rfl, fun _ => rfl, by rw [List.length_append]; show p.ws.length + 1 ≤ _; omega, by rw [List.length_append]; show (p.ws.length + 1) * 24 ≤ _; omega, rfl, ?_⟩
          conv => whnf
          refine op_absorbRow (i := 1) (r := 4) rfl rfl fun row2 rest2 S3 hrw1 hrw2 => ?_
          obtain ⟨y, hy⟩ : ∃ y, row2 = some y := by
            cases row2 with
            | none => have := hrw1 rfl; simp at this
            | some y => exact ⟨y, rfl⟩
          subst hy
          obtain ⟨g1, c1⟩ := y
          obtain ⟨hf1, hf2, hf3⟩ := hrw2 _ rfl
          dsimp only at hf1 hf2 hf3
          obtain ⟨a1, a2⟩ := hput g1 c1 rest2 hf1 (by rw [hf2]; omega) hf3
          have hI3 := hI2 g1 c1 rest2 a1
          rw [hmp] at a2
          refine op_entryStoreA (i := 1) (g := w1.mg) (L := w1.L.map entW) (j := A.length) (e := entW p) rfl (by rw [p2, hI.hmg]; rfl) rfl rfl rfl (hoff g1 c1 hf1 _) (ent_born p1) (ent_at p3) ?_
          dsimp only at a2
          rw [a2]
          generalize w1.put A B ⟨p.key, p.ws ++ [x.b.take 100], p.born, some (g1, c1), rest2⟩ = w2 at hI3 ⊢
          conv => whnf
          rw [ew1]
          have hh := cache_hdr (d := d')
          rw [hI3.hcg] at hh
          have hwts := waits_fn d'
          rw [hI3.st.waits] at hwts
          have hln := len_ar d' hI3.st.ok
          rw [hI3.hcg, hI3.st.len] at hln
          have hq9 := hI3.q
          have hm9 := hI3.m
          refine CallVC.lookA (i := 0) hwts rfl rfl (conv_fp hh) ?_
          rintro _ rfl
          conv => whnf
          refine Fork.intro (fun q3 => ?_) (fun q3 => ?_)
          · exact absurd q3 (by simp)
          conv => whnf
          refine Fork.intro (fun q4 => ?_) (fun q4 => ?_)
          rotate_left
          · conv => whnf
            refine CallVC.arL (i := 0) hln rfl rfl ?_
            rintro _ rfl
            conv => whnf
            refine Fork.intro (fun q6 => ?_) (fun q6 => ?_)
            · have q6' := of_decide_eq_true q6
              conv => whnf
              refine CallVC.arL (i := 0) hln rfl rfl ?_
              rintro _ rfl
              conv => whnf
              refine Fork.intro (fun q7 => ?_) (fun q7 => ?_)
              · exact absurd (of_decide_eq_true q7) (by omega)
              conv => whnf
              rw [e0]
              refine ⟨(k + 1, d', T', w2, S1, S3), [], [], ?_, ⟨q2', hI3⟩, by show 80 - (k + 1) < 80 - k; omega⟩
              repeat' (first | exact trivial | exact .inl (DLe.refl _) | exact .inl (DLe.nil _ _) | (refine .inr ⟨rfl, _, ?_, rfl⟩; rfl) | exact rfl | exact .inl rfl | exact .inr ⟨rfl, rfl, rfl, rfl⟩ | exact Nat.zero_le _ | constructor)
            · conv => whnf
              rw [e0]
              refine ⟨(k + 1, d', T', w2, S1, S3), [], [], ?_, ⟨q2', hI3⟩, by show 80 - (k + 1) < 80 - k; omega⟩
              repeat' (first | exact trivial | exact .inl (DLe.refl _) | exact .inl (DLe.nil _ _) | (refine .inr ⟨rfl, _, ?_, rfl⟩; rfl) | exact rfl | exact .inl rfl | exact .inr ⟨rfl, rfl, rfl, rfl⟩ | exact Nat.zero_le _ | constructor)
          · have q4' := of_decide_eq_true q4
            conv => whnf
            refine Fork.intro (fun q5 => ?_) (fun q5 => ?_)
            · exact absurd (of_decide_eq_true q5) (by omega)
            conv => whnf
            refine CallVC.arL (i := 0) hln rfl rfl ?_
            rintro _ rfl
            conv => whnf
            refine Fork.intro (fun q6 => ?_) (fun q6 => ?_)
            · have q6' := of_decide_eq_true q6
              conv => whnf
              refine CallVC.arL (i := 0) hln rfl rfl ?_
              rintro _ rfl
              conv => whnf
              refine Fork.intro (fun q7 => ?_) (fun q7 => ?_)
              · exact absurd (of_decide_eq_true q7) (by omega)
              conv => whnf
              rw [e0]
              refine ⟨(k + 1, d', T', w2, S1, S3), [], [], ?_, ⟨q2', hI3⟩, by show 80 - (k + 1) < 80 - k; omega⟩
              repeat' (first | exact trivial | exact .inl (DLe.refl _) | exact .inl (DLe.nil _ _) | (refine .inr ⟨rfl, _, ?_, rfl⟩; rfl) | exact rfl | exact .inl rfl | exact .inr ⟨rfl, rfl, rfl, rfl⟩ | exact Nat.zero_le _ | constructor)
            · conv => whnf
              rw [e0]
              refine ⟨(k + 1, d', T', w2, S1, S3), [], [], ?_, ⟨q2', hI3⟩, by show 80 - (k + 1) < 80 - k; omega⟩
              repeat' (first | exact trivial | exact .inl (DLe.refl _) | exact .inl (DLe.nil _ _) | (refine .inr ⟨rfl, _, ?_, rfl⟩; rfl) | exact rfl | exact .inl rfl | exact .inr ⟨rfl, rfl, rfl, rfl⟩ | exact Nat.zero_le _ | constructor)
        | some x0 =>
          obtain ⟨g0, c0⟩ := x0
          obtain ⟨b3, b4⟩ := b2 _ hr
          have hr0 := hr0 _ hr
          dsimp only at b3 b4 hr0
          rw [hr] at hput hoff
          dsimp only [offW] at hput hoff
          rw [slV_some]
          conv => whnf
          refine op_emit (i := 1) (j := 96) (L := p.ws) (enc := wsE) (e := 1) rfl rfl hr0 rfl (fun _ _ _ => rfl) (rowC_cell wsE_len) (by rw [rowC_len wsE_len, b3]; omega) b4 fun S2 => ?_
          refine op_append ttH rfl ?_
          conv => whnf
          refine ⟨List Nat, wsE, p.ws ++ [x.b.take 100], by rw [List.map_append]; rfl, fun _ => rfl, by rw [List.length_append]; show p.ws.length + 1 ≤ _; omega, by rw [List.length_append]; show (p.ws.length + 1) * 24 ≤ _; omega, rfl, ?_⟩
          conv => whnf
          refine op_absorbRow (i := 1) (r := 5) rfl rfl fun row2 rest2 S3 hrw1 hrw2 => ?_
          obtain ⟨y, hy⟩ : ∃ y, row2 = some y := by
            cases row2 with
            | none => have := hrw1 rfl; simp at this
            | some y => exact ⟨y, rfl⟩
          subst hy
          obtain ⟨g1, c1⟩ := y
          obtain ⟨hf1, hf2, hf3⟩ := hrw2 _ rfl
          dsimp only at hf1 hf2 hf3
          obtain ⟨a1, a2⟩ := hput g1 c1 rest2 hf1 (by rw [hf2]; omega) hf3
          have hI3 := hI2 g1 c1 rest2 a1
          rw [hmp] at a2
          refine op_entryStoreA (i := 1) (g := w1.mg) (L := w1.L.map entW) (j := A.length) (e := entW p) rfl (by rw [p2, hI.hmg]; rfl) rfl rfl rfl (hoff g1 c1 hf1 _) (ent_born p1) (ent_at p3) ?_
          dsimp only at a2
          rw [a2]
          generalize w1.put A B ⟨p.key, p.ws ++ [x.b.take 100], p.born, some (g1, c1), rest2⟩ = w2 at hI3 ⊢
          conv => whnf
          rw [ew1]
          have hh := cache_hdr (d := d')
          rw [hI3.hcg] at hh
          have hwts := waits_fn d'
          rw [hI3.st.waits] at hwts
          have hln := len_ar d' hI3.st.ok
          rw [hI3.hcg, hI3.st.len] at hln
          have hq9 := hI3.q
          have hm9 := hI3.m
          refine CallVC.lookA (i := 0) hwts rfl rfl (conv_fp hh) ?_
          rintro _ rfl
          conv => whnf
          refine Fork.intro (fun q3 => ?_) (fun q3 => ?_)
          · exact absurd q3 (by simp)
          conv => whnf
          refine Fork.intro (fun q4 => ?_) (fun q4 => ?_)
          rotate_left
          · conv => whnf
            refine CallVC.arL (i := 0) hln rfl rfl ?_
            rintro _ rfl
            conv => whnf
            refine Fork.intro (fun q6 => ?_) (fun q6 => ?_)
            · have q6' := of_decide_eq_true q6
              conv => whnf
              refine CallVC.arL (i := 0) hln rfl rfl ?_
              rintro _ rfl
              conv => whnf
              refine Fork.intro (fun q7 => ?_) (fun q7 => ?_)
              · exact absurd (of_decide_eq_true q7) (by omega)
              conv => whnf
              rw [e0]
              refine ⟨(k + 1, d', T', w2, S1, S3), [], [], ?_, ⟨q2', hI3⟩, by show 80 - (k + 1) < 80 - k; omega⟩
              repeat' (first | exact trivial | exact .inl (DLe.refl _) | exact .inl (DLe.nil _ _) | (refine .inr ⟨rfl, _, ?_, rfl⟩; rfl) | exact rfl | exact .inl rfl | exact .inr ⟨rfl, rfl, rfl, rfl⟩ | exact Nat.zero_le _ | constructor)
            · conv => whnf
              rw [e0]
              refine ⟨(k + 1, d', T', w2, S1, S3), [], [], ?_, ⟨q2', hI3⟩, by show 80 - (k + 1) < 80 - k; omega⟩
              repeat' (first | exact trivial | exact .inl (DLe.refl _) | exact .inl (DLe.nil _ _) | (refine .inr ⟨rfl, _, ?_, rfl⟩; rfl) | exact rfl | exact .inl rfl | exact .inr ⟨rfl, rfl, rfl, rfl⟩ | exact Nat.zero_le _ | constructor)
          · have q4' := of_decide_eq_true q4
            conv => whnf
            refine Fork.intro (fun q5 => ?_) (fun q5 => ?_)
            · exact absurd (of_decide_eq_true q5) (by omega)
            conv => whnf
            refine CallVC.arL (i := 0) hln rfl rfl ?_
            rintro _ rfl
            conv => whnf
            refine Fork.intro (fun q6 => ?_) (fun q6 => ?_)
            · have q6' := of_decide_eq_true q6
              conv => whnf
              refine CallVC.arL (i := 0) hln rfl rfl ?_
              rintro _ rfl
              conv => whnf
              refine Fork.intro (fun q7 => ?_) (fun q7 => ?_)
              · exact absurd (of_decide_eq_true q7) (by omega)
              conv => whnf
              rw [e0]
              refine ⟨(k + 1, d', T', w2, S1, S3), [], [], ?_, ⟨q2', hI3⟩, by show 80 - (k + 1) < 80 - k; omega⟩
              repeat' (first | exact trivial | exact .inl (DLe.refl _) | exact .inl (DLe.nil _ _) | (refine .inr ⟨rfl, _, ?_, rfl⟩; rfl) | exact rfl | exact .inl rfl | exact .inr ⟨rfl, rfl, rfl, rfl⟩ | exact Nat.zero_le _ | constructor)
            · conv => whnf
              rw [e0]
              refine ⟨(k + 1, d', T', w2, S1, S3), [], [], ?_, ⟨q2', hI3⟩, by show 80 - (k + 1) < 80 - k; omega⟩
              repeat' (first | exact trivial | exact .inl (DLe.refl _) | exact .inl (DLe.nil _ _) | (refine .inr ⟨rfl, _, ?_, rfl⟩; rfl) | exact rfl | exact .inl rfl | exact .inr ⟨rfl, rfl, rfl, rfl⟩ | exact Nat.zero_le _ | constructor)
    | false =>
      rw [he] at hkw
      have hT : T' = T := hkw
      have hI3 : KI c cg wg (k + 1) d' T' w := by
        rw [hT] at f4 ⊢
        exact ⟨f1, f2.trans hI.hcc, ⟨by rw [f3]; exact hI.now.1, by rw [f3]; have := hI.now.2; omega⟩, f4, hI.ok, by have := hI.len; omega, by have := hI.wts; omega, hI.wok, hI.hmg, hI.ws, hI.fr, hI.q, hI.m⟩
      clear hwant hkw hg
      subst hT
      generalize w = w2 at hI3 ⊢
      generalize S' = S3
      conv => whnf
      have hh := cache_hdr (d := d')
      rw [hI3.hcg] at hh
      have hwts := waits_fn d'
      rw [hI3.st.waits] at hwts
      have hln := len_ar d' hI3.st.ok
      rw [hI3.hcg, hI3.st.len] at hln
      have hq9 := hI3.q
      have hm9 := hI3.m
      refine CallVC.lookA (i := 0) hwts rfl rfl (conv_fp hh) ?_
      rintro _ rfl
      conv => whnf
      refine Fork.intro (fun q3 => ?_) (fun q3 => ?_)
      · exact absurd q3 (by simp)
      conv => whnf
      refine Fork.intro (fun q4 => ?_) (fun q4 => ?_)
      rotate_left
      · conv => whnf
        refine CallVC.arL (i := 0) hln rfl rfl ?_
        rintro _ rfl
        conv => whnf
        refine Fork.intro (fun q6 => ?_) (fun q6 => ?_)
        · have q6' := of_decide_eq_true q6
          conv => whnf
          refine CallVC.arL (i := 0) hln rfl rfl ?_
          rintro _ rfl
          conv => whnf
          refine Fork.intro (fun q7 => ?_) (fun q7 => ?_)
          · exact absurd (of_decide_eq_true q7) (by omega)
          conv => whnf
          rw [e0]
          refine ⟨(k + 1, d', T', w2, S1, S3), [], [], ?_, ⟨q2', hI3⟩, by show 80 - (k + 1) < 80 - k; omega⟩
          repeat' (first | exact trivial | exact .inl (DLe.refl _) | exact .inl (DLe.nil _ _) | (refine .inr ⟨rfl, _, ?_, rfl⟩; rfl) | exact rfl | exact .inl rfl | exact .inr ⟨rfl, rfl, rfl, rfl⟩ | exact Nat.zero_le _ | constructor)
        · conv => whnf
          rw [e0]
          refine ⟨(k + 1, d', T', w2, S1, S3), [], [], ?_, ⟨q2', hI3⟩, by show 80 - (k + 1) < 80 - k; omega⟩
          repeat' (first | exact trivial | exact .inl (DLe.refl _) | exact .inl (DLe.nil _ _) | (refine .inr ⟨rfl, _, ?_, rfl⟩; rfl) | exact rfl | exact .inl rfl | exact .inr ⟨rfl, rfl, rfl, rfl⟩ | exact Nat.zero_le _ | constructor)
      · have q4' := of_decide_eq_true q4
        conv => whnf
        refine Fork.intro (fun q5 => ?_) (fun q5 => ?_)
        · exact absurd (of_decide_eq_true q5) (by omega)
        conv => whnf
        refine CallVC.arL (i := 0) hln rfl rfl ?_
        rintro _ rfl
        conv => whnf
        refine Fork.intro (fun q6 => ?_) (fun q6 => ?_)
        · have q6' := of_decide_eq_true q6
          conv => whnf
          refine CallVC.arL (i := 0) hln rfl rfl ?_
          rintro _ rfl
          conv => whnf
          refine Fork.intro (fun q7 => ?_) (fun q7 => ?_)
          · exact absurd (of_decide_eq_true q7) (by omega)
          conv => whnf
          rw [e0]
          refine ⟨(k + 1, d', T', w2, S1, S3), [], [], ?_, ⟨q2', hI3⟩, by show 80 - (k + 1) < 80 - k; omega⟩
          repeat' (first | exact trivial | exact .inl (DLe.refl _) | exact .inl (DLe.nil _ _) | (refine .inr ⟨rfl, _, ?_, rfl⟩; rfl) | exact rfl | exact .inl rfl | exact .inr ⟨rfl, rfl, rfl, rfl⟩ | exact Nat.zero_le _ | constructor)
        · conv => whnf
          rw [e0]
          refine ⟨(k + 1, d', T', w2, S1, S3), [], [], ?_, ⟨q2', hI3⟩, by show 80 - (k + 1) < 80 - k; omega⟩
          repeat' (first | exact trivial | exact .inl (DLe.refl _) | exact .inl (DLe.nil _ _) | (refine .inr ⟨rfl, _, ?_, rfl⟩; rfl) | exact rfl | exact .inl rfl | exact .inr ⟨rfl, rfl, rfl, rfl⟩ | exact Nat.zero_le _ | constructor)
  | false =>
    conv => whnf
    have hfr0 := hI.fr x.key
    have hln0 : (wsT T x.key).length ≤ 80 := by
      refine Nat.le_trans ?_ hW80
      unfold wsT
      cases hq : findT T x.key with
      | none => exact Nat.zero_le _
      | some y => exact waitsT_mem (findT_mem hq).1
    cases h1 : decide (x.kind = 1) with
    | true =>
      conv => whnf
      generalize decide (x.kind = 2) = add
      have hkl := keeps_learn (c := d.c) (now := d.now) hI.st.sort (by rw [hI.hcc]; exact hI.m) x.key x.m add
      have hlen := learn_len (c := d.c) (now := d.now) T x.key x.m add
      have hlok := learn_ok (c := d.c) (now := d.now) hI.ok x.key x.m add
      have hlw := learn_waits (c := d.c) (now := d.now) hI.st.sort x.key x.m add
      have hlearn := learn_ar d T hI.st x.key hxo x.m add ⟨hI.now.1, by omega⟩ (by omega)
      rw [hI.hcg] at hlearn
      refine CallVC.ar (i := 0) hlearn rfl rfl ?_
      rintro _ _ S1 ⟨rfl, d', rfl, f1, f2, f3, f4⟩
      clear hlearn
      generalize learnT d.c d.now T x.key x.m add = g at hkl hlen hlok hlw f4 ⊢
      obtain ⟨⟨told, ok⟩, T'⟩ := g
      dsimp only at hkl hlen hlok hlw f4 ⊢
      cases ok with
      | true =>
        obtain ⟨k1, k4, k5⟩ := hkl
        have hws : ∀ k', wsT T' k' = match decide (k' = x.key) with
            | true => []
            | false => wsT T k' := k5
        rw [← k1] at hfr0 hln0 hwsx
        have hsame : FnN Try.prog 10 [wsR told, wsR told] fun d => d = boolD true := (FnN.of_flat (sameW_fn told told (by omega) (fun y hy => Nat.le_trans (hfr0 y hy) (by decide))) (fun d e => by rw [e]; rfl)).mono fun d e => by rw [e, decide_eq_true rfl]
        have ew2 : IntKind.i64.wrap (((waitsT T : Nat) : Int) - ((told.length : Nat) : Int)) = ((waitsT T' : Nat) : Int) := by rw [IntWalk.i64_in _ (by omega)]; omega
        conv => whnf
        refine op_lookW (i := 1) (d := w) rfl (by rw [hI.hmg]; rfl) rfl rfl hI.wok hxo fun row rest r1 r2 => ?_
        rw [hwsx] at r1 r2 ⊢
        conv => whnf
        refine CallVC.lookS (i := 1) (args0 := [wsR told, wsR told]) hsame rfl rfl (fun C vs hM hr => ⟨hr.1, fun j dd u hd hu => ?_⟩) ?_
        · match j, hd with
          | 0, hd => exact hr.2 0 _ u hd hu
          | 1, hd =>
            injection hd with hd
            subst hd
            exact rowsA_at hM r1 (fun _ _ _ => rfl) r2 (hr.2 1 _ u rfl hu)
          | j + 2, hd => cases hd
        rintro _ rfl
        conv => whnf
        rw [ew2]
        refine op_delW (i := 1) (d := w) rfl (by rw [hI.hmg]; rfl) rfl rfl hI.wok hxo fun S3 X w2 v1 v2 v3 => ?_
        have hI3 : KI c cg wg (k + 1) d' T' w2 := by
          refine ⟨f1, f2.trans hI.hcc, ⟨by rw [f3]; exact hI.now.1, by rw [f3]; have := hI.now.2; omega⟩, f4, hlok, by have := hI.len; omega, by have := hI.wts; omega, v1, v2.trans hI.hmg, fun k' => ?_, fun k' b hb => ?_, by have := hI.q; omega, by rw [← hI.hcc]; exact k4⟩
          · rw [v3, hws]
            cases decide (k' = x.key) with
            | true => rfl
            | false => exact hI.ws k'
          · rw [hws] at hb
            cases hq : decide (k' = x.key) with
            | true => rw [hq] at hb; cases hb
            | false => rw [hq] at hb; exact hI.fr _ _ hb
        conv => whnf
        have hh := cache_hdr (d := d')
        rw [hI3.hcg] at hh
        have hwts := waits_fn d'
        rw [hI3.st.waits] at hwts
        have hln := len_ar d' hI3.st.ok
        rw [hI3.hcg, hI3.st.len] at hln
        have hq9 := hI3.q
        have hm9 := hI3.m
        refine CallVC.lookA (i := 0) hwts rfl rfl (conv_fp hh) ?_
        rintro _ rfl
        conv => whnf
        refine Fork.intro (fun q3 => ?_) (fun q3 => ?_)
        · exact absurd q3 (by simp)
        conv => whnf
        refine Fork.intro (fun q4 => ?_) (fun q4 => ?_)
        rotate_left
        · conv => whnf
          refine CallVC.arL (i := 0) hln rfl rfl ?_
          rintro _ rfl
          conv => whnf
          refine Fork.intro (fun q6 => ?_) (fun q6 => ?_)
          · have q6' := of_decide_eq_true q6
            conv => whnf
            refine CallVC.arL (i := 0) hln rfl rfl ?_
            rintro _ rfl
            conv => whnf
            refine Fork.intro (fun q7 => ?_) (fun q7 => ?_)
            · exact absurd (of_decide_eq_true q7) (by omega)
            conv => whnf
            rw [e0]
            refine ⟨(k + 1, d', T', w2, S1, S3), [], [], ?_, ⟨q2', hI3⟩, by show 80 - (k + 1) < 80 - k; omega⟩
            repeat' (first | exact trivial | exact .inl (DLe.refl _) | exact .inl (DLe.nil _ _) | (refine .inr ⟨rfl, _, ?_, rfl⟩; rfl) | exact rfl | exact .inl rfl | exact .inr ⟨rfl, rfl, rfl, rfl⟩ | exact Nat.zero_le _ | constructor)
          · conv => whnf
            rw [e0]
            refine ⟨(k + 1, d', T', w2, S1, S3), [], [], ?_, ⟨q2', hI3⟩, by show 80 - (k + 1) < 80 - k; omega⟩
            repeat' (first | exact trivial | exact .inl (DLe.refl _) | exact .inl (DLe.nil _ _) | (refine .inr ⟨rfl, _, ?_, rfl⟩; rfl) | exact rfl | exact .inl rfl | exact .inr ⟨rfl, rfl, rfl, rfl⟩ | exact Nat.zero_le _ | constructor)
        · have q4' := of_decide_eq_true q4
          conv => whnf
          refine Fork.intro (fun q5 => ?_) (fun q5 => ?_)
          · exact absurd (of_decide_eq_true q5) (by omega)
          conv => whnf
          refine CallVC.arL (i := 0) hln rfl rfl ?_
          rintro _ rfl
          conv => whnf
          refine Fork.intro (fun q6 => ?_) (fun q6 => ?_)
          · have q6' := of_decide_eq_true q6
            conv => whnf
            refine CallVC.arL (i := 0) hln rfl rfl ?_
            rintro _ rfl
            conv => whnf
            refine Fork.intro (fun q7 => ?_) (fun q7 => ?_)
            · exact absurd (of_decide_eq_true q7) (by omega)
            conv => whnf
            rw [e0]
            refine ⟨(k + 1, d', T', w2, S1, S3), [], [], ?_, ⟨q2', hI3⟩, by show 80 - (k + 1) < 80 - k; omega⟩
            repeat' (first | exact trivial | exact .inl (DLe.refl _) | exact .inl (DLe.nil _ _) | (refine .inr ⟨rfl, _, ?_, rfl⟩; rfl) | exact rfl | exact .inl rfl | exact .inr ⟨rfl, rfl, rfl, rfl⟩ | exact Nat.zero_le _ | constructor)
          · conv => whnf
            rw [e0]
            refine ⟨(k + 1, d', T', w2, S1, S3), [], [], ?_, ⟨q2', hI3⟩, by show 80 - (k + 1) < 80 - k; omega⟩
            repeat' (first | exact trivial | exact .inl (DLe.refl _) | exact .inl (DLe.nil _ _) | (refine .inr ⟨rfl, _, ?_, rfl⟩; rfl) | exact rfl | exact .inl rfl | exact .inr ⟨rfl, rfl, rfl, rfl⟩ | exact Nat.zero_le _ | constructor)
      | false =>
        obtain ⟨k1, k2⟩ := hkl
        have k1 : told = [] := k1
        have k2 : T' = T := k2
        have hI3 : KI c cg wg (k + 1) d' T' w := by
          rw [k2] at f4 ⊢
          exact ⟨f1, f2.trans hI.hcc, ⟨by rw [f3]; exact hI.now.1, by rw [f3]; have := hI.now.2; omega⟩, f4, hI.ok, by have := hI.len; omega, by have := hI.wts; omega, hI.wok, hI.hmg, hI.ws, hI.fr, hI.q, hI.m⟩
        subst k1
        subst k2
        generalize w = w2 at hI3 ⊢
        generalize S' = S3
        conv => whnf
        have hh := cache_hdr (d := d')
        rw [hI3.hcg] at hh
        have hwts := waits_fn d'
        rw [hI3.st.waits] at hwts
        have hln := len_ar d' hI3.st.ok
        rw [hI3.hcg, hI3.st.len] at hln
        have hq9 := hI3.q
        have hm9 := hI3.m
        refine CallVC.lookA (i := 0) hwts rfl rfl (conv_fp hh) ?_
        rintro _ rfl
        conv => whnf
        refine Fork.intro (fun q3 => ?_) (fun q3 => ?_)
        · exact absurd q3 (by simp)
        conv => whnf
        refine Fork.intro (fun q4 => ?_) (fun q4 => ?_)
        rotate_left
        · conv => whnf
          refine CallVC.arL (i := 0) hln rfl rfl ?_
          rintro _ rfl
          conv => whnf
          refine Fork.intro (fun q6 => ?_) (fun q6 => ?_)
          · have q6' := of_decide_eq_true q6
            conv => whnf
            refine CallVC.arL (i := 0) hln rfl rfl ?_
            rintro _ rfl
            conv => whnf
            refine Fork.intro (fun q7 => ?_) (fun q7 => ?_)
            · exact absurd (of_decide_eq_true q7) (by omega)
            conv => whnf
            rw [e0]
            refine ⟨(k + 1, d', T', w2, S1, S3), [], [], ?_, ⟨q2', hI3⟩, by show 80 - (k + 1) < 80 - k; omega⟩
            repeat' (first | exact trivial | exact .inl (DLe.refl _) | exact .inl (DLe.nil _ _) | (refine .inr ⟨rfl, _, ?_, rfl⟩; rfl) | exact rfl | exact .inl rfl | exact .inr ⟨rfl, rfl, rfl, rfl⟩ | exact Nat.zero_le _ | constructor)
          · conv => whnf
            rw [e0]
            refine ⟨(k + 1, d', T', w2, S1, S3), [], [], ?_, ⟨q2', hI3⟩, by show 80 - (k + 1) < 80 - k; omega⟩
            repeat' (first | exact trivial | exact .inl (DLe.refl _) | exact .inl (DLe.nil _ _) | (refine .inr ⟨rfl, _, ?_, rfl⟩; rfl) | exact rfl | exact .inl rfl | exact .inr ⟨rfl, rfl, rfl, rfl⟩ | exact Nat.zero_le _ | constructor)
        · have q4' := of_decide_eq_true q4
          conv => whnf
          refine Fork.intro (fun q5 => ?_) (fun q5 => ?_)
          · exact absurd (of_decide_eq_true q5) (by omega)
          conv => whnf
          refine CallVC.arL (i := 0) hln rfl rfl ?_
          rintro _ rfl
          conv => whnf
          refine Fork.intro (fun q6 => ?_) (fun q6 => ?_)
          · have q6' := of_decide_eq_true q6
            conv => whnf
            refine CallVC.arL (i := 0) hln rfl rfl ?_
            rintro _ rfl
            conv => whnf
            refine Fork.intro (fun q7 => ?_) (fun q7 => ?_)
            · exact absurd (of_decide_eq_true q7) (by omega)
            conv => whnf
            rw [e0]
            refine ⟨(k + 1, d', T', w2, S1, S3), [], [], ?_, ⟨q2', hI3⟩, by show 80 - (k + 1) < 80 - k; omega⟩
            repeat' (first | exact trivial | exact .inl (DLe.refl _) | exact .inl (DLe.nil _ _) | (refine .inr ⟨rfl, _, ?_, rfl⟩; rfl) | exact rfl | exact .inl rfl | exact .inr ⟨rfl, rfl, rfl, rfl⟩ | exact Nat.zero_le _ | constructor)
          · conv => whnf
            rw [e0]
            refine ⟨(k + 1, d', T', w2, S1, S3), [], [], ?_, ⟨q2', hI3⟩, by show 80 - (k + 1) < 80 - k; omega⟩
            repeat' (first | exact trivial | exact .inl (DLe.refl _) | exact .inl (DLe.nil _ _) | (refine .inr ⟨rfl, _, ?_, rfl⟩; rfl) | exact rfl | exact .inl rfl | exact .inr ⟨rfl, rfl, rfl, rfl⟩ | exact Nat.zero_le _ | constructor)
    | false =>
      conv => whnf
      cases h2 : decide (x.kind = 2) with
      | true =>
        conv => whnf
        generalize decide (x.kind = 2) = add
        have hkl := keeps_learn (c := d.c) (now := d.now) hI.st.sort (by rw [hI.hcc]; exact hI.m) x.key x.m add
        have hlen := learn_len (c := d.c) (now := d.now) T x.key x.m add
        have hlok := learn_ok (c := d.c) (now := d.now) hI.ok x.key x.m add
        have hlw := learn_waits (c := d.c) (now := d.now) hI.st.sort x.key x.m add
        have hlearn := learn_ar d T hI.st x.key hxo x.m add ⟨hI.now.1, by omega⟩ (by omega)
        rw [hI.hcg] at hlearn
        refine CallVC.ar (i := 0) hlearn rfl rfl ?_
        rintro _ _ S1 ⟨rfl, d', rfl, f1, f2, f3, f4⟩
        clear hlearn
        generalize learnT d.c d.now T x.key x.m add = g at hkl hlen hlok hlw f4 ⊢
        obtain ⟨⟨told, ok⟩, T'⟩ := g
        dsimp only at hkl hlen hlok hlw f4 ⊢
        cases ok with
        | true =>
          obtain ⟨k1, k4, k5⟩ := hkl
          have hws : ∀ k', wsT T' k' = match decide (k' = x.key) with
              | true => []
              | false => wsT T k' := k5
          rw [← k1] at hfr0 hln0 hwsx
          have hsame : FnN Try.prog 10 [wsR told, wsR told] fun d => d = boolD true := (FnN.of_flat (sameW_fn told told (by omega) (fun y hy => Nat.le_trans (hfr0 y hy) (by decide))) (fun d e => by rw [e]; rfl)).mono fun d e => by rw [e, decide_eq_true rfl]
          have ew2 : IntKind.i64.wrap (((waitsT T : Nat) : Int) - ((told.length : Nat) : Int)) = ((waitsT T' : Nat) : Int) := by rw [IntWalk.i64_in _ (by omega)]; omega
          conv => whnf
          refine op_lookW (i := 1) (d := w) rfl (by rw [hI.hmg]; rfl) rfl rfl hI.wok hxo fun row rest r1 r2 => ?_
          rw [hwsx] at r1 r2 ⊢
          conv => whnf
          refine CallVC.lookS (i := 1) (args0 := [wsR told, wsR told]) hsame rfl rfl (fun C vs hM hr => ⟨hr.1, fun j dd u hd hu => ?_⟩) ?_
          · match j, hd with
            | 0, hd => exact hr.2 0 _ u hd hu
            | 1, hd =>
              injection hd with hd
              subst hd
              exact rowsA_at hM r1 (fun _ _ _ => rfl) r2 (hr.2 1 _ u rfl hu)
            | j + 2, hd => cases hd
          rintro _ rfl
          conv => whnf
          rw [ew2]
          refine op_delW (i := 1) (d := w) rfl (by rw [hI.hmg]; rfl) rfl rfl hI.wok hxo fun S3 X w2 v1 v2 v3 => ?_
          have hI3 : KI c cg wg (k + 1) d' T' w2 := by
            refine ⟨f1, f2.trans hI.hcc, ⟨by rw [f3]; exact hI.now.1, by rw [f3]; have := hI.now.2; omega⟩, f4, hlok, by have := hI.len; omega, by have := hI.wts; omega, v1, v2.trans hI.hmg, fun k' => ?_, fun k' b hb => ?_, by have := hI.q; omega, by rw [← hI.hcc]; exact k4⟩
            · rw [v3, hws]
              cases decide (k' = x.key) with
              | true => rfl
              | false => exact hI.ws k'
            · rw [hws] at hb
              cases hq : decide (k' = x.key) with
              | true => rw [hq] at hb; cases hb
              | false => rw [hq] at hb; exact hI.fr _ _ hb
          conv => whnf
          have hh := cache_hdr (d := d')
          rw [hI3.hcg] at hh
          have hwts := waits_fn d'
          rw [hI3.st.waits] at hwts
          have hln := len_ar d' hI3.st.ok
          rw [hI3.hcg, hI3.st.len] at hln
          have hq9 := hI3.q
          have hm9 := hI3.m
          refine CallVC.lookA (i := 0) hwts rfl rfl (conv_fp hh) ?_
          rintro _ rfl
          conv => whnf
          refine Fork.intro (fun q3 => ?_) (fun q3 => ?_)
          · exact absurd q3 (by simp)
          conv => whnf
          refine Fork.intro (fun q4 => ?_) (fun q4 => ?_)
          rotate_left
          · conv => whnf
            refine CallVC.arL (i := 0) hln rfl rfl ?_
            rintro _ rfl
            conv => whnf
            refine Fork.intro (fun q6 => ?_) (fun q6 => ?_)
            · have q6' := of_decide_eq_true q6
              conv => whnf
              refine CallVC.arL (i := 0) hln rfl rfl ?_
              rintro _ rfl
              conv => whnf
              refine Fork.intro (fun q7 => ?_) (fun q7 => ?_)
              · exact absurd (of_decide_eq_true q7) (by omega)
              conv => whnf
              rw [e0]
              refine ⟨(k + 1, d', T', w2, S1, S3), [], [], ?_, ⟨q2', hI3⟩, by show 80 - (k + 1) < 80 - k; omega⟩
              repeat' (first | exact trivial | exact .inl (DLe.refl _) | exact .inl (DLe.nil _ _) | (refine .inr ⟨rfl, _, ?_, rfl⟩; rfl) | exact rfl | exact .inl rfl | exact .inr ⟨rfl, rfl, rfl, rfl⟩ | exact Nat.zero_le _ | constructor)
            · conv => whnf
              rw [e0]
              refine ⟨(k + 1, d', T', w2, S1, S3), [], [], ?_, ⟨q2', hI3⟩, by show 80 - (k + 1) < 80 - k; omega⟩
              repeat' (first | exact trivial | exact .inl (DLe.refl _) | exact .inl (DLe.nil _ _) | (refine .inr ⟨rfl, _, ?_, rfl⟩; rfl) | exact rfl | exact .inl rfl | exact .inr ⟨rfl, rfl, rfl, rfl⟩ | exact Nat.zero_le _ | constructor)
          · have q4' := of_decide_eq_true q4
            conv => whnf
            refine Fork.intro (fun q5 => ?_) (fun q5 => ?_)
            · exact absurd (of_decide_eq_true q5) (by omega)
            conv => whnf
            refine CallVC.arL (i := 0) hln rfl rfl ?_
            rintro _ rfl
            conv => whnf
            refine Fork.intro (fun q6 => ?_) (fun q6 => ?_)
            · have q6' := of_decide_eq_true q6
              conv => whnf
              refine CallVC.arL (i := 0) hln rfl rfl ?_
              rintro _ rfl
              conv => whnf
              refine Fork.intro (fun q7 => ?_) (fun q7 => ?_)
              · exact absurd (of_decide_eq_true q7) (by omega)
              conv => whnf
              rw [e0]
              refine ⟨(k + 1, d', T', w2, S1, S3), [], [], ?_, ⟨q2', hI3⟩, by show 80 - (k + 1) < 80 - k; omega⟩
              repeat' (first | exact trivial | exact .inl (DLe.refl _) | exact .inl (DLe.nil _ _) | (refine .inr ⟨rfl, _, ?_, rfl⟩; rfl) | exact rfl | exact .inl rfl | exact .inr ⟨rfl, rfl, rfl, rfl⟩ | exact Nat.zero_le _ | constructor)
            · conv => whnf
              rw [e0]
              refine ⟨(k + 1, d', T', w2, S1, S3), [], [], ?_, ⟨q2', hI3⟩, by show 80 - (k + 1) < 80 - k; omega⟩
              repeat' (first | exact trivial | exact .inl (DLe.refl _) | exact .inl (DLe.nil _ _) | (refine .inr ⟨rfl, _, ?_, rfl⟩; rfl) | exact rfl | exact .inl rfl | exact .inr ⟨rfl, rfl, rfl, rfl⟩ | exact Nat.zero_le _ | constructor)
        | false =>
          obtain ⟨k1, k2⟩ := hkl
          have k1 : told = [] := k1
          have k2 : T' = T := k2
          have hI3 : KI c cg wg (k + 1) d' T' w := by
            rw [k2] at f4 ⊢
            exact ⟨f1, f2.trans hI.hcc, ⟨by rw [f3]; exact hI.now.1, by rw [f3]; have := hI.now.2; omega⟩, f4, hI.ok, by have := hI.len; omega, by have := hI.wts; omega, hI.wok, hI.hmg, hI.ws, hI.fr, hI.q, hI.m⟩
          subst k1
          subst k2
          generalize w = w2 at hI3 ⊢
          generalize S' = S3
          conv => whnf
          have hh := cache_hdr (d := d')
          rw [hI3.hcg] at hh
          have hwts := waits_fn d'
          rw [hI3.st.waits] at hwts
          have hln := len_ar d' hI3.st.ok
          rw [hI3.hcg, hI3.st.len] at hln
          have hq9 := hI3.q
          have hm9 := hI3.m
          refine CallVC.lookA (i := 0) hwts rfl rfl (conv_fp hh) ?_
          rintro _ rfl
          conv => whnf
          refine Fork.intro (fun q3 => ?_) (fun q3 => ?_)
          · exact absurd q3 (by simp)
          conv => whnf
          refine Fork.intro (fun q4 => ?_) (fun q4 => ?_)
          rotate_left
          · conv => whnf
            refine CallVC.arL (i := 0) hln rfl rfl ?_
            rintro _ rfl
            conv => whnf
            refine Fork.intro (fun q6 => ?_) (fun q6 => ?_)
            · have q6' := of_decide_eq_true q6
              conv => whnf
              refine CallVC.arL (i := 0) hln rfl rfl ?_
              rintro _ rfl
              conv => whnf
              refine Fork.intro (fun q7 => ?_) (fun q7 => ?_)
              · exact absurd (of_decide_eq_true q7) (by omega)
              conv => whnf
              rw [e0]
              refine ⟨(k + 1, d', T', w2, S1, S3), [], [], ?_, ⟨q2', hI3⟩, by show 80 - (k + 1) < 80 - k; omega⟩
              repeat' (first | exact trivial | exact .inl (DLe.refl _) | exact .inl (DLe.nil _ _) | (refine .inr ⟨rfl, _, ?_, rfl⟩; rfl) | exact rfl | exact .inl rfl | exact .inr ⟨rfl, rfl, rfl, rfl⟩ | exact Nat.zero_le _ | constructor)
            · conv => whnf
              rw [e0]
              refine ⟨(k + 1, d', T', w2, S1, S3), [], [], ?_, ⟨q2', hI3⟩, by show 80 - (k + 1) < 80 - k; omega⟩
              repeat' (first | exact trivial | exact .inl (DLe.refl _) | exact .inl (DLe.nil _ _) | (refine .inr ⟨rfl, _, ?_, rfl⟩; rfl) | exact rfl | exact .inl rfl | exact .inr ⟨rfl, rfl, rfl, rfl⟩ | exact Nat.zero_le _ | constructor)
          · have q4' := of_decide_eq_true q4
            conv => whnf
            refine Fork.intro (fun q5 => ?_) (fun q5 => ?_)
            · exact absurd (of_decide_eq_true q5) (by omega)
            conv => whnf
            refine CallVC.arL (i := 0) hln rfl rfl ?_
            rintro _ rfl
            conv => whnf
            refine Fork.intro (fun q6 => ?_) (fun q6 => ?_)
            · have q6' := of_decide_eq_true q6
              conv => whnf
              refine CallVC.arL (i := 0) hln rfl rfl ?_
              rintro _ rfl
              conv => whnf
              refine Fork.intro (fun q7 => ?_) (fun q7 => ?_)
              · exact absurd (of_decide_eq_true q7) (by omega)
              conv => whnf
              rw [e0]
              refine ⟨(k + 1, d', T', w2, S1, S3), [], [], ?_, ⟨q2', hI3⟩, by show 80 - (k + 1) < 80 - k; omega⟩
              repeat' (first | exact trivial | exact .inl (DLe.refl _) | exact .inl (DLe.nil _ _) | (refine .inr ⟨rfl, _, ?_, rfl⟩; rfl) | exact rfl | exact .inl rfl | exact .inr ⟨rfl, rfl, rfl, rfl⟩ | exact Nat.zero_le _ | constructor)
            · conv => whnf
              rw [e0]
              refine ⟨(k + 1, d', T', w2, S1, S3), [], [], ?_, ⟨q2', hI3⟩, by show 80 - (k + 1) < 80 - k; omega⟩
              repeat' (first | exact trivial | exact .inl (DLe.refl _) | exact .inl (DLe.nil _ _) | (refine .inr ⟨rfl, _, ?_, rfl⟩; rfl) | exact rfl | exact .inl rfl | exact .inr ⟨rfl, rfl, rfl, rfl⟩ | exact Nat.zero_le _ | constructor)
      | false =>
        have htick := tick_ar d T hI.st hI.ok (by rw [hI.hcc]; exact hc) (by omega) (by omega) ⟨hI.now.1, by omega⟩
        have hwe := waits_tickE d.c (d.now + 1) T
        have hto := tick_ok (c := d.c) (now := d.now + 1) hI.ok
        have htl := tick_len d.c (d.now + 1) T
        have hwst := wsT_tick (c := d.c) (now := d.now + 1) hI.st.keysT
        have haw := fun a => asks_wait (c := d.c) (now := d.now + 1) (k := a) hI.st.sort hI.ok
        have hak := fun a => asks_key (c := d.c) (now := d.now + 1) (T := T) (k := a)
        have hal : (asksT d.c (d.now + 1) T).length ≤ T.length := by unfold asksT; rw [List.length_map]; exact List.length_filter_le _ _
        rw [hI.hcg] at htick
        conv => whnf
        refine CallVC.ar (i := 0) htick rfl rfl ?_
        rintro _ _ S1 ⟨rfl, d', rfl, f1, f2, f3, f4⟩
        clear htick
        generalize asksT d.c (d.now + 1) T = asks at haw hak hal ⊢
        generalize lostT d.c (d.now + 1) T = lost at hwe hwst ⊢
        generalize tickT d.c (d.now + 1) T = T' at hwe hwst hto htl f4
        conv => whnf
        refine ⟨Nat, fun j => ⟨[(17, intD j), (16, intD lost), (15, plsR asks), (8, intD k), (7, intD (waitsT T)), (6, .v (.map (some wg))), (5, ptrD cg), (2, .loc 2 0), (1, desR l)], [(0, arL S1 (cacheM d')), (1, arL S' (wM w)), (2, .cells 33 (cfgC c))], 3, ([], 0)⟩, fun j => j ≤ asks.length, fun j => asks.length - j, ⟨0, [], [], ?_, Nat.zero_le _⟩, ?_⟩
        · repeat' (first | exact trivial | exact .inl (DLe.refl _) | exact .inl (DLe.nil _ _) | (refine .inr ⟨rfl, _, ?_, rfl⟩; rfl) | exact rfl | exact .inl rfl | exact .inr ⟨rfl, rfl, rfl, rfl⟩ | exact Nat.zero_le _ | constructor)
        rintro j hj
        dsimp only at hj ⊢
        have hja : asks.length ≤ 1000000 → IntKind.i64.wrap ((j : Int) + 1) = ((j + 1 : Nat) : Int) := fun _ => by rw [IntWalk.i64_in _ (by omega)]; omega
        conv => whnf
        refine Fork.intro (fun q8 => ?_) (fun q8 => ?_)
        · have q8' : j < asks.length := by have := of_decide_eq_true q8; omega
          obtain ⟨a, ha⟩ : ∃ a, asks[j]? = some a := ⟨_, List.getElem?_eq_getElem q8'⟩
          obtain ⟨ax, hax, hak⟩ := hak a (List.mem_of_getElem? ha)
          have haw := haw a (List.mem_of_getElem? ha)
          have hakw : keyW a := by rw [← hak]; exact stand_keyW hI.st hax
          conv => whnf
          refine ⟨rfl, ⟨by omega, by omega⟩, fun y hy => ?_⟩
          obtain rfl : a = y := Option.some.inj (ha.symm.trans hy)
          conv => whnf
          refine op_lookW (i := 1) (d := w) rfl (by rw [hI.hmg]; rfl) rfl rfl hI.wok hakw fun row rest r1 r2 => ?_
          obtain ⟨m, hm⟩ : ∃ m, (wsOf w.L a).length = m + 1 := by
            rw [hI.ws]
            cases hq : wsT T a with
            | nil => exact absurd hq haw
            | cons y r => exact ⟨_, rfl⟩
          rw [hm]
          refine pv_lenS (row := row) ttH (fun e => by rw [r1 e] at hm; cases hm) rfl rfl ?_
          conv => whnf
          rw [hja (by omega)]
          refine ⟨j + 1, [], [], ?_, q8', by show asks.length - (j + 1) < asks.length - j; omega⟩
          repeat' (first | exact trivial | exact .inl (DLe.refl _) | exact .inl (DLe.nil _ _) | (refine .inr ⟨rfl, _, ?_, rfl⟩; rfl) | exact rfl | exact .inl rfl | exact .inr ⟨rfl, rfl, rfl, rfl⟩ | exact Nat.zero_le _ | constructor)
        · clear q8 hja
          have ew3 : IntKind.i64.wrap (((waitsT T : Nat) : Int) - ((lost : Nat) : Int)) = ((waitsT T' : Nat) : Int) := by rw [IntWalk.i64_in _ (by omega)]; omega
          conv => whnf
          rw [ew3]
          cases hl0 : decide (((lost : Nat) : Int) > 0) with
          | true =>
            have hh := cache_hdr (d := d')
            rw [f1] at hh
            have hwts := waits_fn d'
            rw [f4.waits] at hwts
            conv => whnf
            refine CallVC.lookA (i := 0) hwts rfl rfl (conv_fp hh) ?_
            rintro _ rfl
            conv => whnf
            refine Fork.intro (fun q9 => ?_) (fun q9 => ?_)
            · conv => whnf
              (refine CallVC.pure (hlv) rfl ?_; rintro _ rfl; conv => whnf)
            · exact absurd rfl (of_decide_eq_false q9)
          | false =>
            have hl0 : lost = 0 := by have := of_decide_eq_false hl0; omega
            have hwst := hwst hl0
            have hI3 : KI c cg wg (k + 1) d' T' w := ⟨f1, f2.trans hI.hcc, ⟨by rw [f3]; have := hI.now.1; omega, by rw [f3]; have := hI.now.2; omega⟩, f4, hto, by have := hI.len; omega, by have := hI.wts; omega, hI.wok, hI.hmg, fun k' => (hI.ws k').trans (hwst k').symm, fun k' => by rw [hwst]; exact hI.fr k', by have := hI.q; omega, by have := hI.m; omega⟩
            generalize w = w2 at hI3 ⊢
            generalize S' = S3
            conv => whnf
            have hh := cache_hdr (d := d')
            rw [hI3.hcg] at hh
            have hwts := waits_fn d'
            rw [hI3.st.waits] at hwts
            have hln := len_ar d' hI3.st.ok
            rw [hI3.hcg, hI3.st.len] at hln
            have hq9 := hI3.q
            have hm9 := hI3.m
            refine CallVC.lookA (i := 0) hwts rfl rfl (conv_fp hh) ?_
            rintro _ rfl
            conv => whnf
            refine Fork.intro (fun q3 => ?_) (fun q3 => ?_)
            · exact absurd q3 (by simp)
            conv => whnf
            refine Fork.intro (fun q4 => ?_) (fun q4 => ?_)
            rotate_left
            · conv => whnf
              refine CallVC.arL (i := 0) hln rfl rfl ?_
              rintro _ rfl
              conv => whnf
              refine Fork.intro (fun q6 => ?_) (fun q6 => ?_)
              · have q6' := of_decide_eq_true q6
                conv => whnf
                refine CallVC.arL (i := 0) hln rfl rfl ?_
                rintro _ rfl
                conv => whnf
                refine Fork.intro (fun q7 => ?_) (fun q7 => ?_)
                · exact absurd (of_decide_eq_true q7) (by omega)
                conv => whnf
                rw [e0]
                refine ⟨(k + 1, d', T', w2, S1, S3), [], [], ?_, ⟨q2', hI3⟩, by show 80 - (k + 1) < 80 - k; omega⟩
                repeat' (first | exact trivial | exact .inl (DLe.refl _) | exact .inl (DLe.nil _ _) | (refine .inr ⟨rfl, _, ?_, rfl⟩; rfl) | exact rfl | exact .inl rfl | exact .inr ⟨rfl, rfl, rfl, rfl⟩ | exact Nat.zero_le _ | constructor)
              · conv => whnf
                rw [e0]
                refine ⟨(k + 1, d', T', w2, S1, S3), [], [], ?_, ⟨q2', hI3⟩, by show 80 - (k + 1) < 80 - k; omega⟩
                repeat' (first | exact trivial | exact .inl (DLe.refl _) | exact .inl (DLe.nil _ _) | (refine .inr ⟨rfl, _, ?_, rfl⟩; rfl) | exact rfl | exact .inl rfl | exact .inr ⟨rfl, rfl, rfl, rfl⟩ | exact Nat.zero_le _ | constructor)
            · have q4' := of_decide_eq_true q4
              conv => whnf
              refine Fork.intro (fun q5 => ?_) (fun q5 => ?_)
              · exact absurd (of_decide_eq_true q5) (by omega)
              conv => whnf
              refine CallVC.arL (i := 0) hln rfl rfl ?_
              rintro _ rfl
              conv => whnf
              refine Fork.intro (fun q6 => ?_) (fun q6 => ?_)
              · have q6' := of_decide_eq_true q6
                conv => whnf
                refine CallVC.arL (i := 0) hln rfl rfl ?_
                rintro _ rfl
                conv => whnf
                refine Fork.intro (fun q7 => ?_) (fun q7 => ?_)
                · exact absurd (of_decide_eq_true q7) (by omega)
                conv => whnf
                rw [e0]
                refine ⟨(k + 1, d', T', w2, S1, S3), [], [], ?_, ⟨q2', hI3⟩, by show 80 - (k + 1) < 80 - k; omega⟩
                repeat' (first | exact trivial | exact .inl (DLe.refl _) | exact .inl (DLe.nil _ _) | (refine .inr ⟨rfl, _, ?_, rfl⟩; rfl) | exact rfl | exact .inl rfl | exact .inr ⟨rfl, rfl, rfl, rfl⟩ | exact Nat.zero_le _ | constructor)
              · conv => whnf
                rw [e0]
                refine ⟨(k + 1, d', T', w2, S1, S3), [], [], ?_, ⟨q2', hI3⟩, by show 80 - (k + 1) < 80 - k; omega⟩
                repeat' (first | exact trivial | exact .inl (DLe.refl _) | exact .inl (DLe.nil _ _) | (refine .inr ⟨rfl, _, ?_, rfl⟩; rfl) | exact rfl | exact .inl rfl | exact .inr ⟨rfl, rfl, rfl, rfl⟩ | exact Nat.zero_le _ | constructor)
end Go.Proofs.Ytjgihniedhmpeaa.V
