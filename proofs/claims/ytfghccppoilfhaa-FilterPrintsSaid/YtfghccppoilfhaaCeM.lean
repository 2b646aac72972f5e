/-
  The same: maps, and ranges over maps and strings. No condition.
-/
import Derived.Test.YtfghccppoilfhaaCeF
namespace Go.Proofs.Ytfghccppoilfhaa
open Go.RowKit

theorem peel_bind {P : Program} {α β : Type} (s : Sem α) (f : α → Sem β) : peel P (s >>= f) = match peel P s with
    | some a => peel P (f a)
    | none => none := by
  show peel P (s.bind f) = _
  induction s with
  | pure a => rfl
  | program k ih => exact ih P
  | mark m k ih => exact ih
  | choose q k ih =>
    simp only [Sem.bind, peel]
    split
    · exact ih 0
    · rfl
  | _ => rfl

section
variable {P : Program} {W : Ref} {σ : Ren}

def sameKeys (l l' : List MapEntry) : Prop := l.map (·.key) = l'.map (·.key)

theorem findNow_same {d : TypeDesc} {k : Value} : ∀ (l l' : List MapEntry) (i : Nat) (r : Option (Nat × Value)), sameKeys l l' → Instr.findNow d k l i = some r →
    ∃ r', Instr.findNow d k l' i = some r' ∧ ((r = none ∧ r' = none) ∨ ∃ j u e', r = some (i + j, u) ∧ l'[j]? = some e' ∧ r' = some (i + j, e'.val)) := by
  intro l
  induction l with
  | nil =>
    intro l' i r hs h
    have : l' = [] := by
      have := congrArg List.length hs
      simp at this; exact List.eq_nil_of_length_eq_zero this.symm
    subst this
    simp only [Instr.findNow, Option.some.injEq] at h
    subst h
    exact ⟨none, rfl, .inl ⟨rfl, rfl⟩⟩
  | cons e l ih =>
    intro l' i r hs h
    cases l' with
    | nil => have := congrArg List.length hs; simp at this
    | cons e' l' =>
      simp only [sameKeys, List.map_cons, List.cons.injEq] at hs
      obtain ⟨hk, hs⟩ := hs
      unfold Instr.findNow at h ⊢
      rw [← hk]
      split at h
      · rename_i hb
        injection h with h; subst h
        exact ⟨_, rfl, .inr ⟨0, e.val, e', rfl, rfl, rfl⟩⟩
      · rename_i hb
        obtain ⟨r', h1, h2⟩ := ih l' (i + 1) r hs h
        refine ⟨r', h1, ?_⟩
        rcases h2 with h2 | ⟨j, u, e2, h3, h4, h5⟩
        · exact .inl h2
        · refine .inr ⟨j + 1, u, e2, ?_, by simpa using h4, ?_⟩
          · rw [h3]; congr 2; omega
          · rw [h5]; congr 2; omega
      · cases h

theorem findAsking_same {kt : TypeId} {k : Value} : ∀ (l l' : List MapEntry) (i : Nat) (r : Option (Nat × Value)), sameKeys l l' → peel P (Instr.findAsking kt k l i) = some r →
    ∃ r', peel P (Instr.findAsking kt k l' i) = some r' ∧ ((r = none ∧ r' = none) ∨ ∃ j u e', r = some (i + j, u) ∧ l'[j]? = some e' ∧ r' = some (i + j, e'.val)) := by
  intro l
  induction l with
  | nil =>
    intro l' i r hs h
    have : l' = [] := by
      have := congrArg List.length hs
      simp at this; exact List.eq_nil_of_length_eq_zero this.symm
    subst this
    injection h with h; subst h
    exact ⟨none, rfl, .inl ⟨rfl, rfl⟩⟩
  | cons e l ih =>
    intro l' i r hs h
    cases l' with
    | nil => have := congrArg List.length hs; simp at this
    | cons e' l' =>
      simp only [sameKeys, List.map_cons, List.cons.injEq] at hs
      obtain ⟨hk, hs⟩ := hs
      unfold Instr.findAsking at h ⊢
      rw [peel_bind] at h ⊢
      rw [← hk]
      cases hq : peel P (Op.equal kt k e.key) with
      | none => rw [hq] at h; cases h
      | some b =>
        rw [hq] at h
        cases b with
        | true =>
          simp only [if_true] at h ⊢
          injection h with h; subst h
          exact ⟨_, rfl, .inr ⟨0, e.val, e', rfl, rfl, rfl⟩⟩
        | false =>
          simp only [Bool.false_eq_true, if_false] at h ⊢
          obtain ⟨r', h1, h2⟩ := ih l' (i + 1) r hs h
          refine ⟨r', h1, ?_⟩
          rcases h2 with h2 | ⟨j, u, e2, h3, h4, h5⟩
          · exact .inl h2
          · refine .inr ⟨j + 1, u, e2, ?_, by simpa using h4, ?_⟩
            · rw [h3]; congr 2; omega
            · rw [h5]; congr 2; omega

theorem findKey_same {kt : TypeId} {k : Value} {l l' : List MapEntry} {r : Option (Nat × Value)} (hs : sameKeys l l') (h : peel P (Instr.findKey kt k l) = some r) :
    ∃ r', peel P (Instr.findKey kt k l') = some r' ∧ ((r = none ∧ r' = none) ∨ ∃ j u e', r = some (j, u) ∧ l'[j]? = some e' ∧ r' = some (j, e'.val)) := by
  unfold Instr.findKey at h ⊢
  rw [peel_bind] at h ⊢
  cases hu : peel P (underlying kt) with
  | none => rw [hu] at h; cases h
  | some d =>
    rw [hu] at h
    simp only at h ⊢
    cases hn : Instr.findNow d k l 0 with
    | some x =>
      rw [hn] at h
      injection h with h; subst h
      obtain ⟨r', h1, h2⟩ := findNow_same l l' 0 x hs hn
      rw [h1]
      refine ⟨r', rfl, ?_⟩
      rcases h2 with h2 | ⟨j, u, e2, h3, h4, h5⟩
      · exact .inl h2
      · exact .inr ⟨j, u, e2, by simpa using h3, h4, by simpa using h5⟩
    | none =>
      rw [hn] at h
      have hn' : Instr.findNow d k l' 0 = none := by
        cases hq : Instr.findNow d k l' 0 with
        | none => rfl
        | some y =>
          obtain ⟨r', h1, _⟩ := findNow_same l' l 0 y hs.symm hq
          rw [hn] at h1; cases h1
      rw [hn']
      obtain ⟨r', h1, h2⟩ := findAsking_same l l' 0 r hs h
      refine ⟨r', h1, ?_⟩
      rcases h2 with h2 | ⟨j, u, e2, h3, h4, h5⟩
      · exact .inl h2
      · exact .inr ⟨j, u, e2, by simpa using h3, h4, by simpa using h5⟩

theorem RelO.keys {e : Ent} {es es' : Array MapEntry} {ck ck' : Nat} (h : RelO σ e (.map es ck) (.map es' ck')) : ck' = ck ∧ sameKeys es.toList es'.toList ∧ es.size = es'.size ∧
    ∀ (i : Nat) (x x' : MapEntry), es[i]? = some x → es'[i]? = some x' → x'.born = x.born ∧ pureD 8 x.key = true ∧ x'.key = x.key ∧ RelV σ x.val x'.val := by
  cases h with
  | map _ hs he =>
    refine ⟨rfl, ?_, hs, he⟩
    unfold sameKeys
    apply List.ext_getElem
    · simpa using hs
    · intro i h1 h2
      simp only [List.getElem_map, Array.getElem_toList]
      have hi : i < es.size := by simpa using h1
      have hi' : i < es'.size := by simpa using h2
      exact (he i es[i] es'[i] (Array.getElem?_eq_getElem hi) (Array.getElem?_eq_getElem hi')).2.2.1.symm

def mapEntries (m : AM) (x : Value) : Option (Array MapEntry) :=
  match x with
  | .map none => some #[]
  | .map (some r) => match m.get r with
    | some (.map es _) => some es
    | _ => none
  | _ => none

def absLookup (P : Program) (t : TypeId) (x k : Value) (ok : Bool) (m : AM) : Option Value :=
  match P.underlying t, mapEntries m x with
  | some (.map kt et), some es => if pureD 8 k = true then match peel P (Instr.checkKey es.isEmpty 10000 kt k), peel P (Instr.findKey kt k es.toList) with
    | some (), some (some (i, _)) => match es[i]? with
      | some e => some (if ok = true then .tuple #[e.val, .bool true] else e.val)
      | none => none
    | some (), some none => match peel P (zeroValue et) with
      | some z => if pureD 8 z = true then some (if ok = true then .tuple #[z, .bool false] else z) else none
      | none => none
    | _, _ => none else none
  | _, _ => none

theorem rel_pair {v v' : Value} (h : RelV σ v v') (b : Bool) : RelV σ (.tuple #[v, .bool b]) (.tuple #[v', .bool b]) :=
  .tuple rfl fun i x x' hx hx' => by
    match i with
    | 0 => injection hx with hx; injection hx' with hx'; subst hx hx'; exact h
    | 1 => injection hx with hx; injection hx' with hx'; subst hx hx'; exact .bool b
    | i + 2 => simp at hx

theorem rel_ite {v v' : Value} (h : RelV σ v v') (ok b : Bool) : RelV σ (if ok = true then .tuple #[v, .bool b] else v) (if ok = true then .tuple #[v', .bool b] else v') := by
  cases ok
  · exact h
  · exact rel_pair h b

theorem mapEntries_run {m : AM} {w : World} (hw : WR W σ m w) {x x' : Value} (hx : RelV σ x x') {es : Array MapEntry} (h : mapEntries m x = some es) :
    ∃ es' : Array MapEntry, ((x' = .map none ∧ es' = #[]) ∨ ∃ r ck, x' = .map (some r) ∧ w.heap[r]? = some (.map es' ck)) ∧ sameKeys es.toList es'.toList ∧ es.size = es'.size ∧
      ∀ (i : Nat) (x x' : MapEntry), es[i]? = some x → es'[i]? = some x' → x'.born = x.born ∧ pureD 8 x.key = true ∧ x'.key = x.key ∧ RelV σ x.val x'.val := by
  unfold mapEntries at h
  split at h
  · injection h with h; subst h
    cases hx
    exact ⟨#[], .inl ⟨rfl, rfl⟩, rfl, rfl, fun i x x' h => by simp at h⟩
  · rename_i r
    split at h
    · rename_i es0 ck ho
      injection h with h; subst h
      cases hx with
      | map he =>
        rename_i e
        obtain ⟨e1, o1, h1, h2, h3⟩ := hw.obj _ _ ho
        rw [he] at h1; injection h1 with h1; subst h1
        cases o1 with
        | map es' ck' =>
          obtain ⟨_, g2, g3, g4⟩ := h3.keys
          exact ⟨es', .inr ⟨_, ck', rfl, h2⟩, g2, g3, g4⟩
        | _ => cases h3
    · cases h
  · cases h

theorem getMap_run {w : World} {r : Nat} {es : Array MapEntry} {ck : Nat} (h : w.heap[r]? = some (.map es ck)) : (getObj r).run P w = .ok (.map es ck) w := by
  simp [getObj, Sem.run, h]

theorem absLookup_sound {m : AM} {w : World} (hw : WR W σ m w) {t : TypeId} {x x' k k' v : Value} {ok : Bool} (hx : RelV σ x x') (hk : RelV σ k k') (h : absLookup P t x k ok m = some v) : ∃ v', (Instr.lookup t x' k' ok).run P w = .ok v' w ∧ RelV σ v v' := by
  unfold absLookup at h
  split at h
  · rename_i kt et es ht hes
    split at h
    · rename_i hp
      have e1 := pure_eq 8 _ _ hp hk
      subst e1
      obtain ⟨es', q1, q2, q3, q4⟩ := mapEntries_run hw hx hes
      have hempty : es'.isEmpty = es.isEmpty := by simp [Array.isEmpty, q3]
      split at h
      · rename_i i u hck hfk
        split at h
        · rename_i e hei
          injection h with h; subst h
          obtain ⟨r', g1, g2⟩ := findKey_same q2 hfk
          rcases g2 with ⟨g2, _⟩ | ⟨j, u2, e', g2, g3, g4⟩
          · cases g2
          · injection g2 with g2; injection g2 with g2 _; subst g2
            subst g4
            refine ⟨_, ?_, rel_ite (q4 i e e' hei (by simpa using g3)).2.2.2 ok true⟩
            rcases q1 with ⟨rfl, rfl⟩ | ⟨r, ck, rfl, hr⟩
            · simp at g3
            · simp only [Instr.lookup, Sem.run_bind, run_underlying ht, Result.andThen_ok, getMap_run hr, hempty, peel_run hck, peel_run g1, Sem.run_pure]
        · cases h
      · rename_i hck hfk
        split at h
        · rename_i z hz
          split at h
          · rename_i hpz
            injection h with h; subst h
            obtain ⟨r', g1, g2⟩ := findKey_same q2 hfk
            rcases g2 with ⟨_, g2⟩ | ⟨j, u2, e', g2, g3, g4⟩
            · subst g2
              refine ⟨_, ?_, rel_ite (pure_rel 8 z hpz) ok false⟩
              rcases q1 with ⟨rfl, rfl⟩ | ⟨r, ck, rfl, hr⟩
              · simp only [Instr.lookup, Sem.run_bind, run_underlying ht, Result.andThen_ok, hempty, peel_run hck, peel_run g1, peel_run hz, Sem.run_pure]
              · simp only [Instr.lookup, Sem.run_bind, run_underlying ht, Result.andThen_ok, getMap_run hr, hempty, peel_run hck, peel_run g1, peel_run hz, Sem.run_pure]
            · cases g2
          · cases h
        · cases h
      · cases h
    · cases h
  · cases h

theorem absLookup_at {m : AM} {w : World} (hw : WR W σ m w) {t : TypeId} {b : Nat} {e : Ent} (hb : σ.ent b = some e) {k k' v : Value} {ok : Bool} (hk : RelV σ k k') (h : absLookup P t (.map (some b)) k ok m = some v) :
    ∃ (v' : Value) (es' : Array MapEntry) (ck : Nat), w.heap[e.blk]? = some (.map es' ck) ∧ RelV σ v v' ∧ ∀ w1 : World, w1.heap[e.blk]? = some (.map es' ck) → (Instr.lookup t (.map (some e.blk)) k' ok).run P w1 = .ok v' w1 := by
  have hx : RelV σ (.map (some b)) (.map (some e.blk)) := .map hb
  unfold absLookup at h
  split at h
  · rename_i kt et es ht hes
    split at h
    · rename_i hp
      have e1 := pure_eq 8 _ _ hp hk
      subst e1
      obtain ⟨es', q1, q2, q3, q4⟩ := mapEntries_run hw hx hes
      have hempty : es'.isEmpty = es.isEmpty := by simp [Array.isEmpty, q3]
      rcases q1 with ⟨h9, _⟩ | ⟨r, ck, h9, hr⟩
      · cases h9
      injection h9 with h9; injection h9 with h9; subst h9
      split at h
      · rename_i i u hck hfk
        split at h
        · rename_i en hei
          injection h with h; subst h
          obtain ⟨r', g1, g2⟩ := findKey_same q2 hfk
          rcases g2 with ⟨g2, _⟩ | ⟨j, u2, e', g2, g3, g4⟩
          · cases g2
          · injection g2 with g2; injection g2 with g2 _; subst g2
            subst g4
            refine ⟨_, es', ck, hr, rel_ite (q4 i en e' hei (by simpa using g3)).2.2.2 ok true, fun w1 hr1 => ?_⟩
            simp only [Instr.lookup, Sem.run_bind, run_underlying ht, Result.andThen_ok, getMap_run hr1, hempty, peel_run hck, peel_run g1, Sem.run_pure]
        · cases h
      · rename_i hck hfk
        split at h
        · rename_i z hz
          split at h
          · rename_i hpz
            injection h with h; subst h
            obtain ⟨r', g1, g2⟩ := findKey_same q2 hfk
            rcases g2 with ⟨_, g2⟩ | ⟨j, u2, e', g2, g3, g4⟩
            · subst g2
              refine ⟨_, es', ck, hr, rel_ite (pure_rel 8 z hpz) ok false, fun w1 hr1 => ?_⟩
              simp only [Instr.lookup, Sem.run_bind, run_underlying ht, Result.andThen_ok, getMap_run hr1, hempty, peel_run hck, peel_run g1, peel_run hz, Sem.run_pure]
            · cases g2
          · cases h
        · cases h
      · cases h
    · cases h
  · cases h

theorem setObj_run {w : World} {r : Nat} {o o' : Obj} (h : w.heap[r]? = some o) (hc : ∀ c e f, o ≠ .cells c e f) : (setObj r o').run P w = .ok () { w with heap := w.heap.setIfInBounds r o' } := by
  cases o <;> simp [setObj, Sem.run, h] <;> exact absurd rfl (hc _ _ _)

theorem WR.setObj {m : AM} {w : World} (h : WR W σ m w) {i : Nat} {x o o' : Obj} {e : Ent} (hx : m.get i = some x) (he : σ.ent i = some e) (ho : RelO σ e o o') :
    WR W σ (m.set i (some o)) { w with heap := w.heap.setIfInBounds e.blk o' } := by
  have hb := (h.ent _ _ he).2.2
  refine h.set hx he ?_ ho ?_ (by simp) ?_
  · simp [hb.2]
  · refine h.below.one hb.1 rfl rfl rfl (by simp) (fun k hk => ?_) rfl
    simp only [Array.getElem?_setIfInBounds]
    rw [if_neg (fun h => hk h.symm)]
  · intro k hk
    simp only [Array.getElem?_setIfInBounds]
    rw [if_neg (fun h => hk h.symm)]

def absUpdate (P : Program) (t : TypeId) (x k v : Value) (m : AM) : Option AM :=
  match P.underlying t, x with
  | some (.map kt _), .map (some r) => match m.get r with
    | some (.map es ck) => if pureD 8 k = true then match peel P (Instr.checkKey false 10000 kt k), peel P (Instr.findKey kt k es.toList) with
      | some (), some (some (i, _)) => match peel P (Instr.keyThatStays (((es[i]?).map (·.key)).getD k) k) with
        | some k2 => if pureD 8 k2 = true then some (m.set r (some (.map (es.modify i fun e => { e with key := k2, val := v }) ck))) else none
        | none => none
      | some (), some none => some (m.set r (some (.map (es.push { key := k, val := v, born := ck }) (ck + 1))))
      | _, _ => none else none
    | _ => none
  | _, _ => none

theorem absUpdate_sound {m m' : AM} {w : World} (hw : WR W σ m w) {t : TypeId} {x x' k k' v v' : Value} (hx : RelV σ x x') (hk : RelV σ k k') (hv : RelV σ v v') (h : absUpdate P t x k v m = some m') :
    ∃ w', (Instr.mapUpdate t x' k' v').run P w = .ok () w' ∧ WR W σ m' w' ∧ m.tick < m'.tick := by
  unfold absUpdate at h
  split at h
  · rename_i kt et r ht
    split at h
    · rename_i es ck ho
      split at h
      · rename_i hp
        have e1 := pure_eq 8 _ _ hp hk
        subst e1
        cases hx with
        | map he =>
          rename_i e
          obtain ⟨e1, o1, h1, h2, h3⟩ := hw.obj _ _ ho
          rw [he] at h1; injection h1 with h1; subst h1
          cases o1 with
          | map es' ck' =>
            obtain ⟨rfl, q2, q3, q4⟩ := h3.keys
            have hset := fun o' => setObj_run (P := P) (o' := o') h2 (fun _ _ _ hh => by cases hh)
            split at h
            · rename_i i u hck hfk
              split at h
              · rename_i k2 hk2
                split at h
                · rename_i hp2
                  injection h with h; subst h
                  obtain ⟨r', g1, g2⟩ := findKey_same q2 hfk
                  rcases g2 with ⟨g2, _⟩ | ⟨j, u2, e', g2, g3, g4⟩
                  · cases g2
                  · injection g2 with g2; injection g2 with g2 _; subst g2
                    subst g4
                    have hkey : ((es'[i]?).map (·.key)).getD k' = ((es[i]?).map (·.key)).getD k' := by
                      have hi' : i < es'.size := by have := (List.getElem?_eq_some_iff.1 g3).1; simpa using this
                      have hi : i < es.size := by omega
                      have := (q4 i es[i] es'[i] (Array.getElem?_eq_getElem hi) (Array.getElem?_eq_getElem hi')).2.2.1
                      simp [hi, hi', this]
                    refine ⟨_, ?_, hw.setObj ho he (RelO.map (es' := es'.modify i fun e => { e with key := k2, val := v' }) ck' ?_ ?_) , Nat.lt_succ_self _⟩
                    · simp only [Instr.mapUpdate, Sem.run_bind, run_underlying ht, Result.andThen_ok, getMap_run h2, peel_run hck, peel_run g1, hkey, peel_run hk2, hset]
                    · simp [q3]
                    · intro q y y' hy hy'
                      rw [Array.getElem?_modify] at hy hy'
                      by_cases hiq : i = q
                      · subst hiq
                        simp only [if_true] at hy hy'
                        cases ha : es[i]? with
                        | none => rw [ha] at hy; cases hy
                        | some y0 =>
                          cases hb : es'[i]? with
                          | none => rw [hb] at hy'; cases hy'
                          | some y1 =>
                            rw [ha] at hy; rw [hb] at hy'
                            simp only [Option.map_some, Option.some.injEq] at hy hy'
                            subst hy hy'
                            exact ⟨(q4 i y0 y1 ha hb).1, hp2, rfl, hv⟩
                      · rw [if_neg hiq] at hy hy'
                        exact q4 q y y' hy hy'
                · cases h
              · cases h
            · rename_i hck hfk
              injection h with h; subst h
              obtain ⟨r', g1, g2⟩ := findKey_same q2 hfk
              rcases g2 with ⟨_, g2⟩ | ⟨j, u2, e', g2, g3, g4⟩
              · subst g2
                refine ⟨_, ?_, hw.setObj ho he (RelO.map (es' := es'.push { key := k', val := v', born := ck' }) (ck' + 1) ?_ ?_), Nat.lt_succ_self _⟩
                · simp only [Instr.mapUpdate, Sem.run_bind, run_underlying ht, Result.andThen_ok, getMap_run h2, peel_run hck, peel_run g1, hset]
                · simp [q3]
                · intro q y y' hy hy'
                  rw [Array.getElem?_push] at hy hy'
                  by_cases hq : q = es.size
                  · rw [if_pos hq] at hy; rw [if_pos (by omega)] at hy'
                    injection hy with hy; injection hy' with hy'; subst hy hy'
                    exact ⟨rfl, hp, rfl, hv⟩
                  · rw [if_neg hq] at hy; rw [if_neg (by omega)] at hy'
                    exact q4 q y y' hy hy'
              · cases g2
            · cases h
          | _ => cases h3
      · cases h
    · cases h
  · cases h

def absDelete (P : Program) (t : TypeId) (x k : Value) (m : AM) : Option AM :=
  match P.underlying t, x with
  | some (.map kt _), .map none => if pureD 8 k = true then match peel P (Instr.checkKey true 10000 kt k) with
    | some () => some m
    | none => none else none
  | some (.map kt _), .map (some r) => match m.get r with
    | some (.map es ck) => if pureD 8 k = true then match peel P (Instr.checkKey es.isEmpty 10000 kt k), peel P (Instr.findKey kt k es.toList) with
      | some (), some (some (i, _)) => some (m.set r (some (.map (es.eraseIdxIfInBounds i) ck)))
      | some (), some none => some (m.set r (some (.map es ck)))
      | _, _ => none else none
    | _ => none
  | _, _ => none

theorem absDelete_sound {m m' : AM} {w : World} (hw : WR W σ m w) {t tk ty : TypeId} {x x' k k' : Value} (hx : RelV σ x x') (hk : RelV σ k k') (h : absDelete P t x k m = some m') :
    ∃ w', (Builtin.delete_ #[t, tk] ty #[x', k']).run P w = .ok (.tuple #[]) w' ∧ WR W σ m' w' ∧ Quiet σ σ m m' w w' := by
  unfold absDelete at h
  split at h
  · rename_i kt et ht
    split at h
    · rename_i hp
      have e1 := pure_eq 8 _ _ hp hk
      subst e1
      split at h
      · rename_i hck
        injection h with h; subst h
        cases hx
        exact ⟨w, by simp [Builtin.delete_, run_underlying ht, peel_run hck], hw, Quiet.refl⟩
      · cases h
    · cases h
  · rename_i kt et r ht
    split at h
    · rename_i es ck ho
      split at h
      · rename_i hp
        have e1 := pure_eq 8 _ _ hp hk
        subst e1
        cases hx with
        | map he =>
          rename_i e
          obtain ⟨e1, o1, h1, h2, h3⟩ := hw.obj _ _ ho
          rw [he] at h1; injection h1 with h1; subst h1
          cases o1 with
          | map es' ck' =>
            obtain ⟨rfl, q2, q3, q4⟩ := h3.keys
            have hset := fun o' => setObj_run (P := P) (o' := o') h2 (fun _ _ _ hh => by cases hh)
            have hempty : es'.isEmpty = es.isEmpty := by simp [Array.isEmpty, q3]
            split at h
            · rename_i i u hck hfk
              injection h with h; subst h
              obtain ⟨r', g1, g2⟩ := findKey_same q2 hfk
              rcases g2 with ⟨g2, _⟩ | ⟨j, u2, e', g2, g3, g4⟩
              · cases g2
              · injection g2 with g2; injection g2 with g2 _; subst g2
                subst g4
                have hi' : i < es'.size := by have := (List.getElem?_eq_some_iff.1 g3).1; simpa using this
                have hi : i < es.size := by omega
                refine ⟨_, ?_, hw.setObj ho he (RelO.map (es' := es'.eraseIdxIfInBounds i) ck' ?_ ?_), Quiet.of_lt (Nat.lt_succ_self _)⟩
                · simp [Builtin.delete_, run_underlying ht, getMap_run h2, hempty, peel_run hck, peel_run g1, hset]
                · simp [Array.eraseIdxIfInBounds, hi', q3]
                · intro q y y' hy hy'
                  simp only [Array.eraseIdxIfInBounds, hi, hi', dif_pos] at hy hy'
                  rw [Array.getElem?_eraseIdx] at hy hy'
                  split at hy
                  · rename_i hq
                    rw [if_pos hq] at hy'
                    exact q4 q y y' hy hy'
                  · rename_i hq
                    rw [if_neg hq] at hy'
                    exact q4 (q + 1) y y' hy hy'
            · rename_i hck hfk
              injection h with h; subst h
              obtain ⟨r', g1, g2⟩ := findKey_same q2 hfk
              rcases g2 with ⟨_, g2⟩ | ⟨j, u2, e', g2, g3, g4⟩
              · subst g2
                refine ⟨_, ?_, hw.setObj ho he (RelO.map (es' := es') ck' q3 q4), Quiet.of_lt (Nat.lt_succ_self _)⟩
                simp [Builtin.delete_, run_underlying ht, getMap_run h2, hempty, peel_run hck, peel_run g1, hset]
              · cases g2
            · cases h
          | _ => cases h3
      · cases h
    · cases h
  · cases h

def absMakeMap (P : Program) (t : TypeId) (r : Option Value) (m : AM) : Option (Value × AM) :=
  match r with
  | none => some (.map (some m.next), m.push (.map #[] 0))
  | some (.int _ _) => match P.underlying t with
    | some (.map _ _) => some (.map (some m.next), m.push (.map #[] 0))
    | _ => none
  | _ => none

theorem absMakeMap_sound {m m' : AM} {w : World} (hw : WR W σ m w) {t : TypeId} {r r' : Option Value} {v : Value} (hr : RelOV σ r r') (h : absMakeMap P t r m = some (v, m')) :
    ∃ σ' v' w', Ext σ σ' ∧ (Instr.makeMap t r').run P w = .ok v' w' ∧ WR W σ' m' w' ∧ RelV σ' v v' ∧ Quiet σ σ' m m' w w' := by
  have key : WR W (σ.add m.next ⟨w.heap.size, 0, 0, 0⟩) (m.push (.map #[] 0)) (w.alloc (.map #[] 0)) ∧ RelV (σ.add m.next ⟨w.heap.size, 0, 0, 0⟩) (.map (some m.next)) (.map (some w.heap.size)) := by
    refine ⟨hw.push ⟨w.heap.size, 0, 0, 0⟩ rfl (.map 0 rfl fun i x x' h => by simp at h), ?_⟩
    exact RelV.map (e := ⟨w.heap.size, 0, 0, 0⟩) (by simp only [Ren.add, if_true])
  unfold absMakeMap at h
  split at h
  · injection h with h; injection h with h1 h2; subst h1 h2
    cases r' with
    | none => exact ⟨_, _, _, Ren.add_ext hw.fresh _, rfl, key.1, key.2, Quiet.of_lt (Nat.lt_succ_self _)⟩
    | some _ => exact hr.elim
  · split at h
    · rename_i k n _ kt et ht
      injection h with h; injection h with h1 h2; subst h1 h2
      cases r' with
      | none => exact hr.elim
      | some u =>
        have hu : RelV σ (.int k n) u := hr
        cases hu
        refine ⟨_, _, _, Ren.add_ext hw.fresh _, ?_, key.1, key.2, Quiet.of_lt (Nat.lt_succ_self _)⟩
        simp only [Instr.makeMap, Sem.run_bind, run_underlying ht, Result.andThen_ok, Go.asInt, Go.asIntOf, Sem.run_pure]
        rfl
    · cases h
  · cases h

def absRange (P : Program) (t : TypeId) (x : Value) (m : AM) : Option (Value × AM) :=
  match P.underlying t, x with
  | some .string, .string s => some (.pointer (some ⟨m.next, 0, none⟩), m.push (.stringIter s 0))
  | some (.map _ _), .map none => some (.pointer (some ⟨m.next, 0, none⟩), m.push (.mapIter none 0 #[] 0))
  | some (.map _ _), .map (some r) => match m.get r with
    | some (.map _ ck) => some (.pointer (some ⟨m.next, 0, none⟩), m.push (.mapIter (some r) ck #[] ck))
    | _ => none
  | _, _ => none

theorem WR.iter {m : AM} {w : World} (hw : WR W σ m w) {o o' : Obj} (ho : ∀ σ' e, Ext σ σ' → e.sh = 0 → RelO σ' e o o') :
    ∃ σ', Ext σ σ' ∧ WR W σ' (m.push o) (w.alloc o') ∧ RelV σ' (.pointer (some ⟨m.next, 0, none⟩)) (.pointer (some ⟨w.heap.size, 0, none⟩)) := by
  have hx := Ren.add_ext hw.fresh ⟨w.heap.size, 0, 0, 0⟩
  refine ⟨_, hx, hw.push ⟨w.heap.size, 0, 0, 0⟩ rfl (ho _ _ hx rfl), ?_⟩
  have := RelV.ptr (σ := σ.add m.next ⟨w.heap.size, 0, 0, 0⟩) (b := m.next) (o := 0) (e := ⟨w.heap.size, 0, 0, 0⟩) (by simp only [Ren.add, if_true])
  simpa using this

theorem newObj_run (o : Obj) (w : World) : (newObj o).run P w = .ok w.heap.size (w.alloc o) := rfl

theorem absRange_sound {m m' : AM} {w : World} (hw : WR W σ m w) {t : TypeId} {x x' v : Value} (hx : RelV σ x x') (h : absRange P t x m = some (v, m')) :
    ∃ σ' v' w', Ext σ σ' ∧ (Instr.range t x').run P w = .ok v' w' ∧ WR W σ' m' w' ∧ RelV σ' v v' ∧ Quiet σ σ' m m' w w' := by
  unfold absRange at h
  split at h
  · rename_i s ht
    injection h with h; injection h with h1 h2; subst h1 h2
    cases hx
    obtain ⟨σ', g1, g2, g3⟩ := hw.iter (o := .stringIter s 0) (o' := .stringIter s 0) (fun σ' e _ h => .stringIter s 0 h)
    exact ⟨σ', _, _, g1, by simp only [Instr.range, Sem.run_bind, run_underlying ht, Result.andThen_ok, Sem.run_pure, newObj_run], g2, g3, Quiet.of_lt (Nat.lt_succ_self _)⟩
  · rename_i kt et ht
    injection h with h; injection h with h1 h2; subst h1 h2
    cases hx
    obtain ⟨σ', g1, g2, g3⟩ := hw.iter (o := .mapIter none 0 #[] 0) (o' := .mapIter none 0 #[] 0) (fun σ' e _ h => .mapIterNil 0 #[] 0 h)
    exact ⟨σ', _, _, g1, by simp only [Instr.range, Sem.run_bind, run_underlying ht, Result.andThen_ok, Sem.run_pure, newObj_run], g2, g3, Quiet.of_lt (Nat.lt_succ_self _)⟩
  · rename_i kt et r ht
    split at h
    · rename_i es ck ho
      injection h with h; injection h with h1 h2; subst h1 h2
      cases hx with
      | map he =>
        rename_i e
        obtain ⟨e1, o1, h1, h2, h3⟩ := hw.obj _ _ ho
        rw [he] at h1; injection h1 with h1; subst h1
        cases o1 with
        | map es' ck' =>
          obtain ⟨rfl, _⟩ := h3.keys
          obtain ⟨σ', g1, g2, g3⟩ := hw.iter (o := .mapIter (some r) ck' #[] ck') (o' := .mapIter (some e.blk) ck' #[] ck') (fun σ' _ hx h => .mapIter (hx.ent _ _ he) ck' #[] ck' h)
          exact ⟨σ', _, _, g1, by simp only [Instr.range, Sem.run_bind, run_underlying ht, Result.andThen_ok, getMap_run h2, Sem.run_pure, newObj_run], g2, g3, Quiet.of_lt (Nat.lt_succ_self _)⟩
        | _ => cases h3
    · cases h
  · cases h

inductive All2 {α β : Type} (R : α → β → Prop) : List α → List β → Prop where
  | nil : All2 R [] []
  | cons {a : α} {b : β} {l : List α} {l' : List β} (h : R a b) (t : All2 R l l') : All2 R (a :: l) (b :: l')

theorem All2.of_get {α β : Type} {R : α → β → Prop} : ∀ (l : List α) (l' : List β), l.length = l'.length → (∀ (i : Nat) x x', l[i]? = some x → l'[i]? = some x' → R x x') → All2 R l l'
  | [], [], _, _ => .nil
  | [], _ :: _, h, _ => by simp at h
  | _ :: _, [], h, _ => by simp at h
  | x :: l, x' :: l', h, hr => .cons (hr 0 x x' rfl rfl) (All2.of_get l l' (by simpa using h) fun i y y' a b => hr (i + 1) y y' (by simpa using a) (by simpa using b))

theorem All2.filter {α β : Type} {R : α → β → Prop} {p : α → Bool} {q : β → Bool} (hpq : ∀ x y, R x y → p x = q y) : ∀ {l : List α} {l' : List β}, All2 R l l' → All2 R (l.filter p) (l'.filter q)
  | _, _, .nil => .nil
  | _, _, .cons (a := a) (b := b) h t => by
    rw [List.filter_cons, List.filter_cons, ← hpq a b h]
    split
    · exact .cons h (All2.filter hpq t)
    · exact All2.filter hpq t

theorem All2.all {α β : Type} {R : α → β → Prop} {p : α → Bool} {q : β → Bool} (hpq : ∀ x y, R x y → p x = q y) : ∀ {l : List α} {l' : List β}, All2 R l l' → l.all p = l'.all q
  | _, _, .nil => rfl
  | _, _, .cons (a := a) (b := b) h t => by rw [List.all_cons, List.all_cons, hpq a b h, All2.all hpq t]

def ahead (es : List MapEntry) (since : Nat) (seen : Array Nat) : List MapEntry × List MapEntry :=
  ((es.filter fun e => !seen.contains e.born).filter (fun e => decide (e.born < since)), (es.filter fun e => !seen.contains e.born).filter (fun e => decide (e.born ≥ since)))

def absNext (x : Value) (isString : Bool) (m : AM) : Option (Value × AM) :=
  match x with
  | .pointer (some ⟨r, 0, none⟩) => match m.get r, isString with
    | some (.stringIter s pos), true => if pos < s.size then some (.tuple #[.bool true, goInt pos, .int .i32 (Utf8.decode s pos).1], m.set r (some (.stringIter s (pos + (Utf8.decode s pos).2)))) else some (.tuple #[.bool false], m)
    | some (.mapIter none _ _ _), false => some (.tuple #[.bool false], m)
    | some (.mapIter (some mr) since seen last), false => match m.get mr with
      | some (.map es ck) => if (!seen.isEmpty && !es.isEmpty && es.toList.all (fun e => decide (e.born ≥ last))) = true then none else
        match ahead es.toList since seen with
        | ([], []) => some (.tuple #[.bool false], m)
        | ([e], []) => some (.tuple #[.bool true, e.key, e.val], m.set r (some (.mapIter (some mr) since (seen.push e.born) ck)))
        | _ => none
      | _ => none
    | _, _ => none
  | _ => none

theorem getIter_run {w : World} {r : Nat} {o : Obj} (h : w.heap[r]? = some o) (hc : ∀ c e f, o ≠ .cells c e f) : (getObj r).run P w = .ok o w := by
  cases o <;> simp [getObj, Sem.run, h] <;> exact absurd rfl (hc _ _ _)

theorem rel_tuple1 (b : Bool) : RelV σ (.tuple #[.bool b]) (.tuple #[.bool b]) := .tuple rfl fun i x x' hx hx' => by
  rw [hx] at hx'; injection hx' with hx'; subst hx'
  match i with
  | 0 => injection hx with hx; subst hx; exact .bool b
  | i + 1 => simp at hx

theorem rel_tuple3 {a a' b b' : Value} (ha : RelV σ a a') (hb : RelV σ b b') : RelV σ (.tuple #[.bool true, a, b]) (.tuple #[.bool true, a', b']) := .tuple rfl fun i x x' hx hx' => by
  match i with
  | 0 => injection hx with hx; injection hx' with hx'; subst hx hx'; exact .bool true
  | 1 => injection hx with hx; injection hx' with hx'; subst hx hx'; exact ha
  | 2 => injection hx with hx; injection hx' with hx'; subst hx hx'; exact hb
  | i + 3 => simp at hx

theorem absNext_sound {m m' : AM} {w : World} (hw : WR W σ m w) {x x' v : Value} {isS : Bool} {ty : TypeId} (hx : RelV σ x x') (h : absNext x isS m = some (v, m')) :
    ∃ v' w', (Instr.next x' isS ty).run P w = .ok v' w' ∧ WR W σ m' w' ∧ RelV σ v v' ∧ Quiet σ σ m m' w w' := by
  unfold absNext at h
  split at h
  · rename_i r
    have hx' : ∃ e, σ.ent r = some e ∧ x' = .pointer (some ⟨e.blk, 0 + e.sh, none⟩) := by cases hx with | ptr he => exact ⟨_, he, rfl⟩
    obtain ⟨e, he, rfl⟩ := hx'
    split at h
    · rename_i s pos ho
      obtain ⟨e1, o1, h1, h2, h3⟩ := hw.obj _ _ ho
      rw [he] at h1; injection h1 with h1; subst h1
      cases h3 with
      | stringIter _ _ hsh =>
        have hget := getIter_run (P := P) h2 (fun _ _ _ hh => by cases hh)
        have hset := fun o' => setObj_run (P := P) (o' := o') h2 (fun _ _ _ hh => by cases hh)
        rw [hsh]
        split at h
        · rename_i hp
          injection h with h; injection h with e1 e2; subst e1 e2
          exact ⟨_, _, by simp [Instr.next, hget, hp, hset, goInt], hw.setObj ho he (.stringIter s _ hsh), rel_tuple3 (.int _ _) (.int _ _), Quiet.of_lt (Nat.lt_succ_self _)⟩
        · rename_i hp
          injection h with h; injection h with e1 e2; subst e1 e2
          exact ⟨_, w, by simp [Instr.next, hget, hp], hw, rel_tuple1 false, Quiet.refl⟩
    · rename_i since seen last ho
      obtain ⟨e1, o1, h1, h2, h3⟩ := hw.obj _ _ ho
      rw [he] at h1; injection h1 with h1; subst h1
      cases h3 with
      | mapIterNil _ _ _ hsh =>
        have hget := getIter_run (P := P) h2 (fun _ _ _ hh => by cases hh)
        rw [hsh]
        injection h with h; injection h with e1 e2; subst e1 e2
        exact ⟨_, w, by simp [Instr.next, hget], hw, rel_tuple1 false, Quiet.refl⟩
    · rename_i mr since seen last ho
      split at h
      · rename_i es ck hom
        split at h
        · cases h
        · rename_i hall
          obtain ⟨e1, o1, h1, h2, h3⟩ := hw.obj _ _ ho
          rw [he] at h1; injection h1 with h1; subst h1
          cases h3 with
          | mapIter hmr _ _ _ hsh =>
            rename_i em
            obtain ⟨e1, o1, h1, h4, h5⟩ := hw.obj _ _ hom
            rw [hmr] at h1; injection h1 with h1; subst h1
            cases o1 with
            | map es' ck' =>
              obtain ⟨rfl, _, q3, q4⟩ := h5.keys
              have hget := getIter_run (P := P) h2 (fun _ _ _ hh => by cases hh)
              have hset := fun o' => setObj_run (P := P) (o' := o') h2 (fun _ _ _ hh => by cases hh)
              have hgm := getMap_run (P := P) h4
              have h2l := All2.of_get (R := fun (x x' : MapEntry) => x'.born = x.born ∧ pureD 8 x.key = true ∧ x'.key = x.key ∧ RelV σ x.val x'.val) es.toList es'.toList (by simpa using q3) (fun i x x' a b => q4 i x x' (by simpa using a) (by simpa using b))
              have hal := All2.all (p := fun e : MapEntry => decide (e.born ≥ last)) (q := fun e : MapEntry => decide (e.born ≥ last)) (fun x y hxy => by rw [hxy.1]) h2l
              have hemp : es'.isEmpty = es.isEmpty := by simp [Array.isEmpty, q3]
              have hall2 : ¬ ((!seen.isEmpty && !es'.isEmpty && es'.all (fun e => decide (e.born ≥ last))) = true) := by
                rw [← Array.all_toList, hemp, ← hal]; exact hall
              have hold := All2.filter (p := fun e : MapEntry => decide (e.born < since)) (q := fun e : MapEntry => decide (e.born < since)) (fun x y hxy => by rw [hxy.1]) (All2.filter (p := fun e : MapEntry => !seen.contains e.born) (q := fun e : MapEntry => !seen.contains e.born) (fun x y hxy => by rw [hxy.1]) h2l)
              have hnew := All2.filter (p := fun e : MapEntry => decide (e.born ≥ since)) (q := fun e : MapEntry => decide (e.born ≥ since)) (fun x y hxy => by rw [hxy.1]) (All2.filter (p := fun e : MapEntry => !seen.contains e.born) (q := fun e : MapEntry => !seen.contains e.born) (fun x y hxy => by rw [hxy.1]) h2l)
              have aold : ((es'.filter fun e => !seen.contains e.born).filter (fun e => decide (e.born < since))).toList = ((es'.toList.filter fun e => !seen.contains e.born).filter (fun e => decide (e.born < since))) := by simp
              have anew : ((es'.filter fun e => !seen.contains e.born).filter (fun e => decide (e.born ≥ since))).toList = ((es'.toList.filter fun e => !seen.contains e.born).filter (fun e => decide (e.born ≥ since))) := by simp
              rw [← aold] at hold
              rw [← anew] at hnew
              generalize hgo : (es'.filter fun e => !seen.contains e.born).filter (fun e => decide (e.born < since)) = AO at hold
              generalize hgn : (es'.filter fun e => !seen.contains e.born).filter (fun e => decide (e.born ≥ since)) = AN at hnew
              rw [hsh]
              have ah : ahead es.toList since seen = ((es.toList.filter fun e => !seen.contains e.born).filter (fun e => decide (e.born < since)), (es.toList.filter fun e => !seen.contains e.born).filter (fun e => decide (e.born ≥ since))) := rfl
              split at h
              · rename_i hah
                rw [ah] at hah
                injection hah with ho1 hn1
                rw [ho1] at hold; rw [hn1] at hnew
                injection h with h; injection h with e1 e2; subst e1 e2
                have z1 : AO = #[] := by obtain ⟨l⟩ := AO; cases hold; rfl
                have z2 : AN = #[] := by obtain ⟨l⟩ := AN; cases hnew; rfl
                subst z1 z2
                refine ⟨_, w, ?_, hw, rel_tuple1 false, Quiet.refl⟩
                unfold Instr.next
                simp only [Nat.zero_add, Sem.run_bind, hget, Result.andThen_ok, hgm, hall2, hgo, hgn]
                simp [Question.forced]
              · rename_i en hah
                rw [ah] at hah
                injection hah with ho1 hn1
                rw [ho1] at hold; rw [hn1] at hnew
                injection h with h; injection h with e1 e2; subst e1 e2
                have z1 : ∃ en', AO = #[en'] ∧ (en'.born = en.born ∧ pureD 8 en.key = true ∧ en'.key = en.key ∧ RelV σ en.val en'.val) := by
                  obtain ⟨l⟩ := AO
                  cases hold with
                  | cons hr ht => cases ht; exact ⟨_, rfl, hr⟩
                have z2 : AN = #[] := by obtain ⟨l⟩ := AN; cases hnew; rfl
                obtain ⟨en', rfl, r1, r2, r3, r4⟩ := z1
                subst z2
                refine ⟨.tuple #[.bool true, en'.key, en'.val], { w with heap := w.heap.setIfInBounds e.blk (.mapIter (some em.blk) since (seen.push en'.born) ck') }, ?_, ?_, ?_, Quiet.of_lt (Nat.lt_succ_self _)⟩
                · unfold Instr.next
                  simp only [Nat.zero_add, Sem.run_bind, hget, Result.andThen_ok, hgm, hall2, hgo, hgn]
                  simp [Question.forced, hset]
                · rw [r1]
                  exact hw.setObj ho he (.mapIter hmr since _ ck' hsh)
                · rw [r3]
                  exact rel_tuple3 (pure_rel 8 _ r2) r4
              · cases h
            | _ => cases h5
      · cases h
    · cases h
  · cases h
end
end Go.Proofs.Ytfghccppoilfhaa
