/-
  The same, part 6: append. No condition.
-/
import Derived.Test.YtfghccppoilfhaaCeE
import Derived.Deep.Upon
namespace Go.Proofs.Ytfghccppoilfhaa
open Go.RowKit

section
variable {P : Program} {W : Ref} {σ : Ren}

def putL : Array Value → Nat → List Value → Array Value
  | c, _, [] => c
  | c, o, v :: r => putL (c.setIfInBounds o v) (o + 1) r

theorem putL_size : ∀ (vs : List Value) (c : Array Value) (o : Nat), (putL c o vs).size = c.size
  | [], _, _ => rfl
  | v :: r, c, o => by rw [putL, putL_size r]; simp
theorem putL_before : ∀ (vs : List Value) (c : Array Value) (o j : Nat), j < o → (putL c o vs)[j]? = c[j]?
  | [], _, _, _, _ => rfl
  | v :: r, c, o, j, h => by
    rw [putL, putL_before r _ _ _ (by omega), Array.getElem?_setIfInBounds, if_neg (by omega)]
theorem putL_in : ∀ (vs : List Value) (c : Array Value) (o j : Nat) (v : Value), vs[j]? = some v → o + j < c.size → (putL c o vs)[o + j]? = some v
  | [], _, _, _, _, h, _ => by simp at h
  | x :: r, c, o, 0, v, h, hs => by
    simp only [List.getElem?_cons_zero, Option.some.injEq] at h
    subst h
    rw [putL, Nat.add_zero, putL_before r _ _ _ (by omega)]
    simp at hs
    simp [hs]
  | x :: r, c, o, j + 1, v, h, hs => by
    simp only [List.getElem?_cons_succ] at h
    have := putL_in r (c.setIfInBounds o x) (o + 1) j v h (by simp; omega)
    rw [putL, show o + (j + 1) = o + 1 + j by omega]; exact this

theorem heap_setCells (b : Nat) (el : TypeId) (f : Nat × Nat) : ∀ (vs : List Value) (o : Nat) (w : World) (c : Array Value), w.heap[b]? = some (.cells c el f) → (w.setCells b o vs).heap[b]? = some (.cells (putL c o vs) el f)
  | [], _, _, _, h => h
  | v :: r, o, w, c, h => by
    rw [World.setCells, putL]
    exact heap_setCells b el f r _ _ _ (heap_setCell_at w b o v c el f h)
theorem heap_setCells_size (b : Nat) : ∀ (vs : List Value) (o : Nat) (w : World), (w.setCells b o vs).heap.size = w.heap.size
  | [], _, _ => rfl
  | v :: r, o, w => by rw [World.setCells, heap_setCells_size b r]; simp
theorem heap_setCells_far (b : Nat) : ∀ (vs : List Value) (o : Nat) (w : World) (k : Nat), k ≠ b → (w.setCells b o vs).heap[k]? = w.heap[k]?
  | [], _, _, _, _ => rfl
  | v :: r, o, w, k, h => by rw [World.setCells, heap_setCells_far b r _ _ _ h]; exact Below.heap_setCell _ _ _ _ h
theorem below_putCells {R : Ref} {b : Nat} (hb : R.mine b) : ∀ (vs : List Value) (o : Nat) (w : World), Frame R w → Frame R (w.setCells b o vs)
  | [], _, _, h => h
  | v :: r, _, _, h => below_putCells hb r _ _ (h.setCell hb v)

theorem WR.kill {m : AM} {w : World} (h : WR W σ m w) (b : Nat) : WR W σ (m.set b none) w := by
  have live : ∀ j y, (m.set b none).get j = some y → m.get j = some y ∧ j ≠ b := by
    intro j y hj
    rcases Tr.get_of_set (show Tr.get deep _ j = some y from hj) with ⟨_, hh⟩ | ⟨hne, hj'⟩
    · cases hh
    · exact ⟨hj', Ne.symm hne⟩
  exact ⟨h.below, h.pos, h.ent, fun i o hi => h.obj i o (live i o hi).1, fun i j o o' e e' hi hj => h.inj i j o o' e e' (live i o hi).1 (live j o' hj).1⟩

theorem WR.openRow {m : AM} {w : World} (h : WR W σ m w) {l l' : List Value} (hl : RelL σ l l') (rest : Array Value) (el : TypeId) (size cap : Nat) (hcap : (l'.toArray ++ rest).size = cap * size) :
    ∃ σ', Ext σ σ' ∧ WR W σ' (m.push (.cells l.toArray el (1, size))) (w.alloc (.cells (l'.toArray ++ rest) el)) ∧
      ∃ e, σ'.ent m.next = some e ∧ RelA σ' ⟨m.next, 0, none⟩ ⟨w.heap.size, 0, none⟩ ∧ e.sh = 0 ∧ e.csize = cap * size ∧ e.esz = size := by
  have hx := Ren.add_ext h.fresh ⟨w.heap.size, 0, cap * size, size⟩
  refine ⟨_, hx, h.push ⟨w.heap.size, 0, cap * size, size⟩ rfl ?_, ⟨w.heap.size, 0, cap * size, size⟩, by simp only [Ren.add, if_true], ⟨⟨w.heap.size, 0, cap * size, size⟩, by simp only [Ren.add, if_true], rfl, by simp⟩, rfl, rfl, rfl⟩
  refine .cells el hcap (fun j _ h1 h2 => by simp at h2) (fun j v hv => ?_) (fun hh => by cases hh) (fun _ => rfl)
  have hj : j < l.length := by simpa using (Array.getElem?_eq_some_iff.1 hv).1
  have hj' : j < l'.length := by have := hl.size; omega
  refine ⟨l'[j], ?_, (hl.each j v _ (by simpa using hv) (List.getElem?_eq_getElem hj')).ext hx⟩
  rw [Nat.add_zero, Array.getElem?_append_left (by simpa using hj')]
  simp [hj']

theorem WR.grownIn {m : AM} {w : World} (h : WR W σ m w) {b : Nat} {c : Array Value} {el : TypeId} {sz : Nat} (ho : m.get b = some (.cells c el (1, sz))) {e : Ent} (he : σ.ent b = some e) {off k : Nat} (hk : off + k ≤ c.size ∨ k = 0)
    {news news' : List Value} (hn : RelL σ news news') (hroom : off + e.sh + k + news'.length ≤ e.csize) :
    ∃ σ', Ext σ σ' ∧ WR W σ' ((m.set b none).push (.cells ((c.toList.drop off).take k ++ news).toArray el (1, sz))) (w.setCells e.blk (off + e.sh + k) news') ∧
      σ'.ent m.next = some ⟨e.blk, off + e.sh, e.csize, sz⟩ := by
  obtain ⟨e1, o1, h1, h2, h3⟩ := h.obj _ _ ho
  rw [he] at h1; injection h1 with h1; subst h1
  have hblk := (h.ent _ _ he).2.2
  cases h3 with
  | cells _ hsz hf hc h0 h1' =>
    rename_i c' f'
    have hez : e.esz = sz := h1' (by simp)
    have hx := Ren.add_ext h.fresh ⟨e.blk, off + e.sh, e.csize, sz⟩
    have hsize := heap_setCells_size e.blk news' (off + e.sh + k) w
    have live : ∀ j y, ((m.set b none).push (.cells ((c.toList.drop off).take k ++ news).toArray el (1, sz))).get j = some y →
        (j = m.next ∧ y = .cells ((c.toList.drop off).take k ++ news).toArray el (1, sz)) ∨ (j ≠ m.next ∧ j ≠ b ∧ m.get j = some y) := by
      intro j y hj
      rcases Tr.get_of_set (show Tr.get deep _ j = some y from hj) with ⟨rfl, hh⟩ | ⟨hne, hj'⟩
      · injection hh with hh; exact .inl ⟨rfl, hh.symm⟩
      · rcases Tr.get_of_set (show Tr.get deep _ j = some y from hj') with ⟨_, hh⟩ | ⟨hne2, hj2⟩
        · cases hh
        · exact .inr ⟨Ne.symm hne, Ne.symm hne2, hj2⟩
    refine ⟨_, hx, ⟨below_putCells hblk.1 _ _ _ h.below, Nat.succ_pos _, ?_, ?_, ?_⟩, by simp only [Ren.add, if_true]⟩
    · intro i e' hi
      simp only [Ren.add] at hi
      rw [hsize]
      split at hi
      · injection hi with hi; subst hi
        rename_i hi'; subst hi'
        exact ⟨h.pos, Nat.lt_succ_self _, hblk.1, hblk.2⟩
      · obtain ⟨g1, g2, g3, g4⟩ := h.ent i e' hi
        exact ⟨g1, Nat.lt_succ_of_lt g2, g3, g4⟩
    · intro i x hi
      rcases live i x hi with ⟨rfl, rfl⟩ | ⟨hne, hneb, hi'⟩
      · refine ⟨⟨e.blk, off + e.sh, e.csize, sz⟩, _, by simp only [Ren.add, if_true], heap_setCells e.blk el f' news' _ w c' h2, ?_⟩
        refine .cells el (by rw [putL_size]; exact hsz) (by rw [putL_size]; exact hf) (fun j v hv => ?_) (fun hh => by cases hh) (fun _ => rfl)
        have hv' : ((c.toList.drop off).take k ++ news)[j]? = some v := by simpa using hv
        have hlen : ((c.toList.drop off).take k).length = k := by simp; omega
        by_cases hj : j < k
        · rw [List.getElem?_append_left (by omega), List.getElem?_take_of_lt hj, List.getElem?_drop] at hv'
          obtain ⟨v', g1, g2⟩ := hc (off + j) v (by simpa using hv')
          refine ⟨v', ?_, g2.ext hx⟩
          simp only
          rw [putL_before _ _ _ _ (by omega), show j + (off + e.sh) = off + j + e.sh by omega]
          exact g1
        · rw [List.getElem?_append_right (by omega), hlen] at hv'
          have hjl : j - k < news.length := (List.getElem?_eq_some_iff.1 hv').1
          have hjl' : j - k < news'.length := by have := hn.size; omega
          refine ⟨news'[j - k], ?_, (hn.each _ v _ hv' (List.getElem?_eq_getElem hjl')).ext hx⟩
          simp only
          have := putL_in news' c' (off + e.sh + k) (j - k) _ (List.getElem?_eq_getElem hjl') (by omega)
          rw [show j + (off + e.sh) = off + e.sh + k + (j - k) by omega]
          exact this
      · obtain ⟨e2, o2, g1, g2, g3⟩ := h.obj i x hi'
        refine ⟨e2, o2, hx.ent _ _ g1, ?_, g3.ext hx⟩
        rw [heap_setCells_far _ _ _ _ _ (fun hb => hneb (h.inj i b _ _ e2 e hi' ho g1 he hb))]
        exact g2
    · intro i j x y ei ej hi hj hei hej hb
      simp only [Ren.add] at hei hej
      rcases live i x hi with ⟨rfl, _⟩ | ⟨hne, hneb, hi'⟩ <;> rcases live j y hj with ⟨rfl, _⟩ | ⟨hne', hneb', hj'⟩
      · rfl
      · simp only [if_true, Option.some.injEq] at hei
        subst hei
        rw [if_neg hne'] at hej
        exact absurd (h.inj j b _ _ ej e hj' ho hej he hb.symm) hneb'
      · simp only [if_true, Option.some.injEq] at hej
        subst hej
        rw [if_neg hne] at hei
        exact absurd (h.inj i b _ _ ei e hi' ho hei he hb) hneb
      · rw [if_neg hne] at hei
        rw [if_neg hne'] at hej
        exact h.inj i j x y ei ej hi' hj' hei hej hb

def zeroFits (i : TypeInfo) : Bool := match i.zero with | some z => decide (z.cells.size = i.size) | none => false

def absGrow (P : Program) (m : AM) (el : TypeId) (i : TypeInfo) (l : List Value) (need : Nat) : Option (Value × AM) :=
  if need * i.bytes ≤ 1099511627776 ∧ need ≤ 1099511627776 ∧ el < P.types.size ∧ l.length = need * i.size ∧ zeroFits i = true ∧ 0 < i.size then
    some (.slice (some ⟨m.next, 0, none⟩) need (capU + i.size), m.push (.cells l.toArray el (1, i.size))) else none

def absAppend (P : Program) (t tx : TypeId) (s x : Value) (m : AM) : Option (Value × AM) :=
  match P.underlying t with
  | some (.slice el) => match P.info? el with
    | some i => match absSrc P i.size tx x m with
      | some (n, news) => match s with
        | .slice none 0 0 => if n = 0 then some (s, m) else absGrow P m el i news n
        | .slice (some a) len cap =>
          if n = 0 then (if capU ≤ cap ∨ len ≤ cap then some (s, m) else none) else
          if a.block = somewhere then (if cap = 0 ∧ len = 0 then absGrow P m el i news n
            else match m.get (a.off - 1) with
              | some (.cells _ el' (f, sz)) => if el' = el ∧ f = 1 ∧ sz = i.size ∧ len = 0 ∧ cap = capU + sz ∧ 0 < a.off then absGrow P (m.set (a.off - 1) none) el i news n else none
              | _ => none) else
          if capU ≤ cap then match m.get a.block with
            | some (.cells c el' (f, sz)) => if el' = el ∧ f = 1 ∧ sz = i.size ∧ a.spot = none ∧ a.off + len * i.size ≤ c.size then
                absGrow P (m.set a.block none) el i ((c.toList.drop a.off).take (len * i.size) ++ news) (len + n) else none
            | _ => none
          else if len + n ≤ cap then match arun P (storeCells (a.add (len * i.size)) news) m with
            | some (_, m') => some (.slice (some a) (len + n) cap, m')
            | none => none
          else if len ≤ cap then match absCells m a (len * i.size) with
            | some old => absGrow P m el i (old ++ news) (len + n)
            | none => none
          else none
        | _ => none
      | none => none
    | none => none
  | _ => none

def absAppendZ (P : Program) (t tx : TypeId) (s x : Value) (m : AM) : Option (Value × AM) :=
  match P.underlying t, P.underlying tx, s, x with
  | some (.slice el), some (.int _), .slice none 0 0, .int _ k => match P.info? el with
    | some i => match i.zero with
      | some z => if 0 < k ∧ k ≤ 1099511627776 then absGrow P m el i (Builtin.zeroCells z.cells k.toNat).toList k.toNat else none
      | none => none
    | none => none
  | _, _, _, _ => none

theorem run_append_room' {t tx ty el : TypeId} {i : TypeInfo} (ht : P.underlying t = some (.slice el)) (hi : P.info? el = some i) {a : Addr} {len cap n : Nat} {x : Value} {news : List Value} {w w' : World} (hs : Src P i.size tx x n news w)
    (hroom : len + n ≤ cap) (hr : (storeCells (a.add (len * i.size)) news).run P w = .ok () w') :
    (Builtin.append_ #[t, tx] ty #[.slice (some a) len cap, x]).run P w = .ok (.slice (some a) (len + n) cap) w' := by
  rcases hs.kind with ⟨e', hk⟩ | hk <;> simp [Builtin.append_, run_underlying ht, run_underlying hk, Go.sizeOf, typeInfo, hi, hs.len, hroom, hs.cells, hr]

theorem absGrow_sound {m m0 m' : AM} {w : World} (hw : WR W σ m w) {t tx ty el : TypeId} {i : TypeInfo} (ht : P.underlying t = some (.slice el)) (hi : P.info? el = some i) {base : Option Addr} {len cap n : Nat}
    {x : Value} {old' news' l : List Value} {v : Value} (hs : Src P i.size tx x n news' w) (hold : (Builtin.firstCells i.size len (.slice base len cap)).run P w.drew = .ok old'.toArray w.drew) (hl : RelL σ l (old' ++ news'))
    (hlt : cap < len + n) (hm0 : m0 = m ∨ ∃ b, m0 = m.set b none) (h : absGrow P m0 el i l (len + n) = some (v, m')) :
    ∃ σ' v' w', Ext σ σ' ∧ (Builtin.append_ #[t, tx] ty #[.slice base len cap, x]).run P w = .ok v' w' ∧ WR W σ' m' w' ∧ RelV σ' v v' ∧ Quiet σ σ' m m' w w' := by
  unfold absGrow at h
  split at h
  · rename_i hc
    obtain ⟨c1, c2, c3, c4, c5, c6⟩ := hc
    cases hzz : i.zero with
    | none => unfold zeroFits at c5; rw [hzz] at c5; cases c5
    | some z =>
      unfold zeroFits at c5
      rw [hzz] at c5
      have hzs : z.cells.size = i.size := by simpa using c5
      injection h with h; injection h with h1 h2; subst h1 h2
      have hw0 : WR W σ m0 w := by
        rcases hm0 with rfl | ⟨b, rfl⟩
        · exact hw
        · exact hw.kill b
      have hrun := run_append_grow_src (P := P) w t tx ty el i z ht hi hzz base len cap old' hold x n news' hs hlt (by omega) (growslice_fits hlt (by omega))
      have hge := grownCap_ge w (len + n) cap el
      have hle := grownCap_le_maxLen w (len + n) cap el (by unfold maxLen; omega)
      unfold maxLen at hle
      have hlen : (old' ++ news').length = (len + n) * i.size := by rw [← hl.size]; exact c4
      obtain ⟨σ', hx, hw', e, he, ha, g1, g2, g3⟩ := hw0.drew.openRow hl (Builtin.zeroCells z.cells (grownCap w (len + n) cap el - (len + n))) el i.size (grownCap w (len + n) cap el) (by
        rw [Array.size_append, size_zeroCells, hzs]
        simp only [List.size_toArray, hlen]
        rw [← Nat.add_mul]; congr 1; omega)
      have hsl := ha.sliceU (l := len + n) (c' := grownCap w (len + n) cap el) he hge (by omega) (by rw [g3]; exact c6) (by rw [g1, g2, g3]; simp)
      rw [g3] at hsl
      refine ⟨σ', _, _, hx, hrun, hw', hsl, Quiet.of_lt ?_⟩
      rcases hm0 with rfl | ⟨b, rfl⟩
      · exact Nat.lt_succ_self _
      · exact Nat.lt_succ_of_lt (Nat.lt_succ_self _)
  · cases h

theorem absAppend_sound {m m' : AM} {w : World} (hw : WR W σ m w) {t tx ty : TypeId} {s s' x x' v : Value} (hs : RelV σ s s') (hx : RelV σ x x') (h : absAppend P t tx s x m = some (v, m')) :
    ∃ σ' v' w', Ext σ σ' ∧ (Builtin.append_ #[t, tx] ty #[s', x']).run P w = .ok v' w' ∧ WR W σ' m' w' ∧ RelV σ' v v' ∧ Quiet σ σ' m m' w w' := by
  unfold absAppend at h
  split at h
  · rename_i el ht
    split at h
    · rename_i i hi
      split at h
      · rename_i n news hsrc
        obtain ⟨news', hn, hS, hone, hnl⟩ := absSrc_sound hw hx hsrc
        split at h
        · -- nil
          cases hs
          split at h
          · rename_i hn0
            subst hn0
            have hnn : news' = [] := List.eq_nil_of_length_eq_zero (by rw [hS.newsLen]; simp)
            subst hnn
            injection h with h; injection h with h1 h2; subst h1 h2
            exact ⟨σ, _, w, Ext.refl σ, run_append_nothing w t tx ty el i ht hi none 0 0 (Nat.le_refl _) x' hS, hw, .nilSlice _ _, Quiet.refl⟩
          · rename_i hn0
            have := absGrow_sound (ty := ty) (n := n) (len := 0) (cap := 0) (base := none) (old' := []) (l := news) hw ht hi hS (by simp [Builtin.firstCells]) (by simpa using hn) (by omega) (.inl rfl) (by simpa using h)
            exact this
        · rename_i a len cap
          split at h
          · rename_i hn0
            subst hn0
            have hnn : news' = [] := List.eq_nil_of_length_eq_zero (by rw [hS.newsLen]; simp)
            subst hnn
            split at h
            · rename_i hcap
              injection h with h; injection h with h1 h2; subst h1 h2
              have : ∃ b c', s' = .slice b len c' ∧ len ≤ c' := by
                cases hs with
                | slice l c c' hh hc hu =>
                  refine ⟨_, c', rfl, ?_⟩
                  by_cases hcu : capU ≤ cap
                  · exact (hu hcu).1
                  · rw [hc (by omega)]; exact hcap.resolve_left hcu
                | empty c c' a hc => exact ⟨_, c', rfl, Nat.zero_le _⟩
                | tail c' a hh hz hr => exact ⟨_, c', rfl, Nat.zero_le _⟩
              obtain ⟨b, c', rfl, hle⟩ := this
              exact ⟨σ, _, w, Ext.refl σ, run_append_nothing w t tx ty el i ht hi b len c' hle x' hS, hw, hs, Quiet.refl⟩
            · cases h
          · rename_i hn0
            split at h
            · rename_i hsome
              split at h
              · rename_i hc
                obtain ⟨hcap0, rfl⟩ := hc
                cases hs with
                | slice l c c' hh hc hu => exact absurd (hw.ent _ _ hh).1 (by simp only at hsome; rw [hsome]; unfold somewhere; omega)
                | empty c c' a' hc =>
                  subst hcap0
                  have hc0 : c' = 0 := hc (by decide)
                  subst hc0
                  have := absGrow_sound (ty := ty) (n := n) (len := 0) (cap := 0) (base := some a') (old' := []) (l := news) hw ht hi hS (firstCells_zero _) (by simpa using hn) (by omega) (.inl rfl) (by simpa using h)
                  exact this
                | tail c' a hh hz hr => exact absurd hcap0 (by unfold capU; omega)
              · rename_i hc0
                split at h
                · rename_i c el' f sz ho
                  split at h
                  · rename_i hq
                    obtain ⟨rfl, rfl, rfl, rfl, hcap, hoff⟩ := hq
                    cases hs with
                    | slice l c c' hh hc hu => exact absurd (hw.ent _ _ hh).1 (by simp only at hsome; rw [hsome]; unfold somewhere; omega)
                    | empty c c' a' hc => exact absurd hoff (by simp)
                    | tail c' a' he hz hr =>
                      rename_i b e
                      simp only [Nat.add_sub_cancel] at ho h
                      have hez : e.esz = i.size := by omega
                      by_cases hc'0 : c' = 0
                      · subst hc'0
                        have := absGrow_sound (ty := ty) (n := n) (len := 0) (cap := 0) (base := some a') (old' := []) (l := news) hw ht hi hS (firstCells_zero _) (by simpa using hn) (by omega) (.inr ⟨b, rfl⟩) (by simpa using h)
                        exact this
                      · obtain ⟨o, rfl, u2, u3⟩ := hr.resolve_left hc'0
                        by_cases hroom : n ≤ c'
                        · rw [hez] at u3
                          have h6 : n * i.size ≤ c' * i.size := Nat.mul_le_mul_right _ hroom
                          have h7 : news'.length = n * i.size := hS.newsLen
                          obtain ⟨σ', hxx, hw', hent⟩ := hw.grownIn (off := o) (k := 0) ho he (.inr rfl) hn (by omega)
                          unfold absGrow at h
                          split at h
                          · injection h with h; injection h with h1 h2; subst h1 h2
                            obtain ⟨oe, oo, w1, w2, w3⟩ := hw.obj _ _ ho
                            rw [he] at w1; injection w1 with w1; subst w1
                            cases w3 with
                            | cells _ hsz hf hcc h0 h1' =>
                              rename_i cc ff
                              have hin : ∀ j, j < news'.length → o + e.sh + 0 * i.size + j < cc.size := fun j hj => by omega
                              have hrun := run_append_room_src (P := P) w t tx ty el' i ht hi e.blk (o + e.sh) 0 c' x' n news' hS (by omega)
                                (fun j hj => by simp [World.cell?, w2]; have := hin j hj; omega)
                                (fun j hj => by
                                  simp only [World.frozen?, w2, Bool.and_eq_false_iff, decide_eq_false_iff_not]
                                  by_cases hq : ff.1 ≤ o + e.sh + 0 * i.size + j
                                  · right; exact fun hh => hf _ (hin j hj) hq hh
                                  · left; exact hq)
                              simp only [List.take_zero, List.nil_append, Nat.add_zero] at hw'
                              simp only [Nat.zero_mul, Nat.add_zero, Nat.zero_add] at hrun
                              refine ⟨σ', _, _, hxx, hrun, hw', ?_, Quiet.of_lt (Nat.lt_succ_of_lt (Nat.lt_succ_self _))⟩
                              have := RelV.slice (σ := σ') (b := m.next) (o := 0) n (capU + i.size) c' hent (fun hh => absurd hh (by omega)) (fun _ => ⟨hroom, u2, by rw [hez] at hz; exact hz, rfl, by simp only; omega⟩)
                              rw [Nat.zero_add] at this
                              exact this
                          · cases h
                        · have := absGrow_sound (ty := ty) (n := n) (len := 0) (cap := c') (base := some ⟨e.blk, o + e.sh, none⟩) (old' := []) (l := news) hw ht hi hS (firstCells_zero _) (by simpa using hn) (by omega) (.inr ⟨b, rfl⟩) (by simpa using h)
                          exact this
                  · cases h
                · cases h
            · rename_i hsome
              obtain ⟨a', c', rfl, ha, hc, hu⟩ := hs.slice_inv hsome
              split at h
              · rename_i hcap
                obtain ⟨e, he, u1, u2, u0, u4, u3⟩ := hu hcap
                split at h
                · rename_i c el' f sz ho
                  split at h
                  · rename_i hq
                    obtain ⟨rfl, rfl, rfl, q4, q5⟩ := hq
                    have hez : e.esz = i.size := by
                      obtain ⟨e1, o1, q1, q2, q3⟩ := hw.obj _ _ ho
                      rw [he] at q1; injection q1 with q1; subst q1
                      cases q3 with
                      | cells _ _ _ _ _ h1 => exact h1 (by simp)
                    have hcells : absCells m a (len * i.size) = some ((c.toList.drop a.off).take (len * i.size)) := by unfold absCells; rw [ho]; simp only; rw [if_pos ⟨q4, q5⟩]
                    obtain ⟨g0, old', g1, g2, g3⟩ := absCells_sound hw ha hcells
                    by_cases hroom : len + n ≤ c'
                    · -- in place
                      rw [hez] at u3
                      have h6 : (len + n) * i.size ≤ c' * i.size := Nat.mul_le_mul_right _ hroom
                      have h7 : (len + n) * i.size = len * i.size + news'.length := by rw [Nat.add_mul, hS.newsLen]
                      have hk := hw.grownIn ho he (.inl q5) hn (by omega)
                      obtain ⟨σ', hxx, hw', hent⟩ := hk
                      unfold absGrow at h
                      split at h
                      · injection h with h; injection h with h1 h2; subst h1 h2
                        obtain ⟨e1, z1, z2, rfl⟩ := ha
                        rw [he] at z1; injection z1 with z1; subst z1
                        obtain ⟨oe, oo, w1, w2, w3⟩ := hw.obj _ _ ho
                        rw [he] at w1; injection w1 with w1; subst w1
                        cases w3 with
                        | cells _ hsz hf hcc h0 h1' =>
                          rename_i cc ff
                          have hin : ∀ j, j < news'.length → a.off + e.sh + len * i.size + j < cc.size := fun j hj => by omega
                          have hrun := run_append_room_src (P := P) w t tx ty el' i ht hi e.blk (a.off + e.sh) len c' x' n news' hS hroom
                            (fun j hj => by simp [World.cell?, w2, hin j hj])
                            (fun j hj => by
                              simp only [World.frozen?, w2, Bool.and_eq_false_iff, decide_eq_false_iff_not]
                              by_cases hq : ff.1 ≤ a.off + e.sh + len * i.size + j
                              · right; exact fun hh => hf _ (hin j hj) hq hh
                              · left; exact hq)
                          refine ⟨σ', _, _, hxx, hrun, hw', ?_, Quiet.of_lt (Nat.lt_succ_of_lt (Nat.lt_succ_self _))⟩
                          have := RelV.slice (σ := σ') (b := m.next) (o := 0) (len + n) (capU + i.size) c' hent (fun hh => absurd hh (by omega)) (fun _ => ⟨hroom, u2, by rw [hez] at u0; exact u0, rfl, by simp only; omega⟩)
                          rw [Nat.zero_add] at this
                          exact this
                      · cases h
                    · -- a new row
                      have hfc := run_firstCells_some (P := P) w.drew i.size len a' len c' old' g2 (by simpa using g3)
                      exact absGrow_sound (ty := ty) hw ht hi hS hfc (g1.append hn) (by omega) (.inr ⟨a.block, rfl⟩) h
                  · cases h
                · cases h
              · rename_i hcap
                have hce := hc (by omega)
                subst hce
                split at h
                · rename_i hroom
                  split at h
                  · rename_i u m1 hst
                    injection h with h; injection h with h1 h2; subst h1 h2
                    obtain ⟨σ', _, w', e1, e3, e4, _, hqq⟩ := Sim.storeCells (P := P) (W := W) news news' σ 0 (ha.add (len * i.size)) hn m w _ _ hw hst
                    exact ⟨σ', _, w', e1, run_append_room' ht hi hS hroom e3, e4, (ha.ext e1).slice _ _ (by omega), hqq⟩
                  · cases h
                · rename_i hroom
                  split at h
                  · split at h
                    · rename_i old hold
                      obtain ⟨g0, old', g1, g2, g3⟩ := absCells_sound hw ha hold
                      have hfc := run_firstCells_some (P := P) w.drew i.size len a' len c' old' g2 (by simpa using g3)
                      exact absGrow_sound (ty := ty) hw ht hi hS hfc (g1.append hn) (by omega) (.inl rfl) h
                    · cases h
                  · cases h
        · cases h
      · cases h
    · cases h
  · cases h
theorem absAppendZ_sound (hz : zerosOk P = true) {m m' : AM} {w : World} (hw : WR W σ m w) {t tx ty : TypeId} {s s' x x' v : Value} (hs : RelV σ s s') (hx : RelV σ x x') (h : absAppendZ P t tx s x m = some (v, m')) :
    ∃ σ' v' w', Ext σ σ' ∧ (Builtin.append_ #[t, tx] ty #[s', x']).run P w = .ok v' w' ∧ WR W σ' m' w' ∧ RelV σ' v v' ∧ Quiet σ σ' m m' w w' := by
  unfold absAppendZ at h
  split at h
  · rename_i el kd kk k ht htx
    split at h
    · rename_i i hi
      split at h
      · rename_i z hzz
        split at h
        · rename_i hk
          cases hs
          cases hx
          obtain ⟨n, rfl⟩ := Int.eq_ofNat_of_zero_le (show 0 ≤ k by omega)
          simp only [Int.toNat_natCast] at h
          unfold absGrow at h
          split at h
          · rename_i hc
            obtain ⟨c1, c2, c3, c4, c5, c6⟩ := hc
            injection h with h; injection h with h1 h2; subst h1 h2
            have hpure : pureD 8 z = true := zeros_pure hz c3 hi hzz
            have hzs : z.cells.size = i.size := by
              unfold zeroFits at c5
              rw [hzz] at c5
              simpa using c5
            have hrel : RelL σ (Builtin.zeroCells z.cells n).toList (Builtin.zeroCells z.cells n).toList := (RelVs.made (pure_cells hpure) _ _).toL
            have hge := grownCap_ge w n 0 el
            have hle := grownCap_le_maxLen w n 0 el (by unfold maxLen; omega)
            unfold maxLen at hle
            obtain ⟨σ', hxx, hw', e, he, ha, g1, g2, g3⟩ := hw.drew.openRow hrel (Builtin.zeroCells z.cells (grownCap w n 0 el - n)) el i.size (grownCap w n 0 el) (by
              rw [Array.size_append, size_zeroCells, hzs]
              simp only [size_zeroCells, hzs]
              rw [← Nat.add_mul]; congr 1; omega)
            have hsl := ha.sliceU (l := n) (c' := grownCap w n 0 el) he hge (by omega) (by rw [g3]; exact c6) (by rw [g1, g2, g3]; simp)
            rw [g3] at hsl
            refine ⟨σ', _, _, hxx, ?_, hw', hsl, Quiet.of_lt (Nat.lt_succ_self _)⟩
            have hb1 : i.bytes * n ≤ 1099511627776 := by rw [Nat.mul_comm]; exact c1
            have hwrap : IntKind.i64.wrap (n : Int) = n := IntWalk.i64_in _ (by omega)
            have hfit := growslice_fits (need := n) (old := 0) (bytes := i.bytes) (by omega) (by omega)
            have h48 : ¬ (281474976710656 < (n : Int) * i.bytes) := by
              have : ((n * i.bytes : Nat) : Int) = (n : Int) * i.bytes := by simp
              omega
            have h48' : ¬ (281474976710656 < Builtin.nextslicecap n 0 * i.bytes) := by omega
            have hn0 : n ≠ 0 := by omega
            have hneg : ¬ ((n : Int) < 0) := by omega
            have hbig : ¬ (9223372036854775807 < (n : Int)) := by omega
            have hmul : ¬ (n * i.size = 0) := fun hh => by rcases Nat.mul_eq_zero.1 hh with h | h <;> omega
            simp [Builtin.append_, run_underlying ht, run_underlying htx, Go.sizeOf, typeInfo, hi, Go.asInt, Go.asIntOf, hwrap, hneg, hbig, hmul, h48, h48', hn0, zeroValue, hzz, Question.forced, newRow, grownCap, Builtin.firstCells]
          · cases h
        · cases h
      · cases h
    · cases h
  · cases h
end
end Go.Proofs.Ytfghccppoilfhaa
