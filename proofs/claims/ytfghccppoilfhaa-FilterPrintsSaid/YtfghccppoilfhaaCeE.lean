/-
  The same, part 5: make, literals of slices, len, copy, append, a string out of bytes. No condition but that the types' zero values bear no address.
-/
import Derived.Test.YtfghccppoilfhaaCeD
import Derived.Laws.MakeOwn
import Derived.Laws.BytesString
import Derived.Deep.AppendSrc
import Derived.Laws.AppendOwn
namespace Go.Proofs.Ytfghccppoilfhaa
open Go.RowKit

section
variable {P : Program} {W : Ref} {σ : Ren}

theorem newRow_run (el : TypeId) (c : Array Value) (w : World) : (Go.newRow el c).run P w = .ok ⟨w.heap.size, 0, none⟩ (w.alloc (.cells c el)) := rfl

theorem WR.row {m : AM} {w : World} (h : WR W σ m w) {c c' : Array Value} (hc : RelVs σ c c') (el : TypeId) :
    ∃ σ', Ext σ σ' ∧ WR W σ' (m.push (.cells c el)) (w.alloc (.cells c' el)) ∧ RelA σ' ⟨m.next, 0, none⟩ ⟨w.heap.size, 0, none⟩ := by
  have hx := Ren.add_ext h.fresh ⟨w.heap.size, 0, c'.size, 0⟩
  refine ⟨_, hx, h.push ⟨w.heap.size, 0, c'.size, 0⟩ rfl ?_, ⟨⟨w.heap.size, 0, c'.size, 0⟩, by simp only [Ren.add, if_true], rfl, by simp⟩⟩
  refine .cells el rfl (fun j _ h1 h2 => by simp at h2) (fun j v hv => ?_) (fun _ => ⟨hc.size.symm, rfl, rfl⟩) (fun h => absurd rfl h)
  have hj : j < c'.size := by
    have h1 := hc.size
    have h2 := (Array.getElem?_eq_some_iff.1 hv).1
    omega
  exact ⟨c'[j], by rw [Nat.add_zero]; exact Array.getElem?_eq_getElem hj, (hc.each j v _ hv (Array.getElem?_eq_getElem hj)).ext hx⟩

theorem pure_getElem! {c : Array Value} (h : ∀ (i : Nat) (v : Value), c[i]? = some v → RelV σ v v) (i : Nat) : RelV σ c[i]! c[i]! := by
  by_cases hi : i < c.size
  · rw [getElem!_pos c i hi]; exact h i _ (Array.getElem?_eq_getElem hi)
  · rw [getElem!_neg c i hi]; exact .bool _

theorem RelVs.made {c : Array Value} (h : ∀ (i : Nat) (v : Value), c[i]? = some v → RelV σ v v) (n k : Nat) : RelVs σ ((Array.range n).map (c[· % k]!)) ((Array.range n).map (c[· % k]!)) := by
  refine ⟨rfl, fun i v v' hv hv' => ?_⟩
  rw [hv] at hv'; injection hv' with hv'; subst hv'
  rw [Array.getElem?_map] at hv
  cases hr : (Array.range n)[i]? with
  | none => rw [hr] at hv; cases hv
  | some q => rw [hr] at hv; injection hv with hv; subst hv; exact pure_getElem! h _

theorem pure_cells {z : Value} (h : pureD 8 z = true) : ∀ (i : Nat) (v : Value), z.cells[i]? = some v → RelV σ v v := fun i v hv => (RelVs.cells (pure_rel (σ := σ) 8 z h)).each i v v hv hv

def absMake (P : Program) (t : TypeId) (l c : Value) (m : AM) : Option (Value × AM) :=
  match P.underlying t, l, c with
  | some (.slice elem), .int _ l, .int _ c => match P.info? elem with
    | some i => match i.zero with
      | some z => if 0 ≤ l ∧ l ≤ c ∧ (i.bytes : Int) * c ≤ 281474976710656 ∧ c ≤ 9223372036854775807 ∧ elem < P.types.size then
          some (.slice (some ⟨m.next, 0, none⟩) l.toNat c.toNat, m.push (.cells (madeCells z.cells (c.toNat * i.size)) elem)) else none
      | none => none
    | none => none
  | _, _, _ => none

theorem absMake_sound (hz : zerosOk P = true) {m m' : AM} {w : World} (hw : WR W σ m w) {t : TypeId} {l l' c c' v : Value} (hl : RelV σ l l') (hc : RelV σ c c') (h : absMake P t l c m = some (v, m')) :
    ∃ σ' v' w', Ext σ σ' ∧ (Instr.makeSlice t l' c').run P w = .ok v' w' ∧ WR W σ' m' w' ∧ RelV σ' v v' ∧ Quiet σ σ' m m' w w' := by
  unfold absMake at h
  split at h
  · rename_i elem kl l kc c ht
    split at h
    · rename_i i hi
      split at h
      · rename_i z hzz
        split at h
        · rename_i hq
          obtain ⟨q1, q2, q3, q4, q5⟩ := hq
          injection h with h; injection h with h1 h2; subst h1 h2
          cases hl; cases hc
          have hp := zeros_pure hz q5 hi hzz
          obtain ⟨σ', hx, hw', ha⟩ := hw.row (RelVs.made (pure_cells hp) (c.toNat * i.size) z.cells.size) elem
          exact ⟨σ', _, _, hx, run_make w t elem i z ht hi hzz kl kc l c q1 q2 q3 q4, hw', ha.slice _ _ (by unfold capU; omega), Quiet.of_lt (Nat.lt_succ_self _)⟩
        · cases h
      · cases h
    · cases h
  · cases h

def absBuildSlice (P : Program) (t : TypeId) (len : Nat) (ps : Array (Nat × Value)) (m : AM) : Option (Value × AM) :=
  match P.underlying t with
  | some (.slice elem) => match P.info? elem with
    | some i => match i.zero with
      | some z => if len * i.size ≤ 16777216 ∧ len ≤ 16777216 ∧ 0 < len * i.size ∧ elem < P.types.size then
          (match Instr.fill (fun k => some (k * i.size, i.size)) ((Array.range (len * i.size)).map (z.cells[· % z.cells.size]!)) ps.toList with
          | some cells => some (.slice (some ⟨m.next, 0, none⟩) len len, m.push (.cells cells elem))
          | none => none) else if len = 0 ∧ ps.size = 0 then some (.slice (some ⟨m.next, 0, none⟩) 0 0, m.push (.cells #[] elem)) else none
      | none => none
    | none => none
  | _ => none

theorem absBuildSlice_sound (hz : zerosOk P = true) {m m' : AM} {w : World} (hw : WR W σ m w) {t : TypeId} {len : Nat} {ps ps' : Array (Nat × Value)} {v : Value} (hp : RelP σ ps.toList ps'.toList)
    (h : absBuildSlice P t len ps m = some (v, m')) : ∃ σ' v' w', Ext σ σ' ∧ (Instr.buildSlice t len ps').run P w = .ok v' w' ∧ WR W σ' m' w' ∧ RelV σ' v v' ∧ Quiet σ σ' m m' w w' := by
  unfold absBuildSlice at h
  split at h
  · rename_i elem ht
    split at h
    · rename_i i hi
      split at h
      · rename_i z hzz
        split at h
        · rename_i hq
          obtain ⟨q1, q2, q3, q4⟩ := hq
          split at h
          · rename_i cells hf
            injection h with h; injection h with h1 h2; subst h1 h2
            have hpu := zeros_pure hz q4 hi hzz
            rcases rel_fill (σ := σ) (fun k => some (k * i.size, i.size)) ps.toList ps'.toList _ _ hp (RelVs.made (pure_cells hpu) (len * i.size) z.cells.size) with ⟨r, r', h1, h2, h3⟩ | h1
            · rw [hf] at h1; injection h1 with h1; subst h1
              obtain ⟨σ', hx, hw', ha⟩ := hw.row h3 elem
              refine ⟨σ', .slice (some ⟨w.heap.size, 0, none⟩) len len, _, hx, ?_, hw', ha.slice _ _ (by unfold capU; omega), Quiet.of_lt (Nat.lt_succ_self _)⟩
              have n1 : ¬ (16777216 < len * i.size) := by omega
              have n2 : ¬ (len * i.size = 0) := by omega
              simp [Instr.buildSlice, run_underlying ht, Go.sizeOf, typeInfo, hi, n2, zeroValue, hzz, n1, h2, newRow_run]
            · rw [hf] at h1; cases h1
          · cases h
        · split at h
          · rename_i hq
            obtain ⟨rfl, hps⟩ := hq
            injection h with h; injection h with h1 h2; subst h1 h2
            have hps' : ps' = #[] := by
              have := hp.size
              simp only [Array.length_toList] at this
              exact Array.eq_empty_of_size_eq_zero (by omega)
            subst hps'
            obtain ⟨σ', hx, hw', ha⟩ := hw.row RelVs.nil elem
            refine ⟨σ', .slice (some ⟨w.heap.size, 0, none⟩) 0 0, _, hx, ?_, hw', ha.slice _ _ (by unfold capU; omega), Quiet.of_lt (Nat.lt_succ_self _)⟩
            have e0 : Array.range 0 = #[] := Array.eq_empty_of_size_eq_zero (by simp)
            simp [Instr.buildSlice, run_underlying ht, Go.sizeOf, typeInfo, hi, Instr.fill, newRow_run, e0]
          · cases h
      · cases h
    · cases h
  · cases h

def absLen (P : Program) (t : TypeId) (x : Value) (m : AM) : Option Value :=
  match P.underlying t, x with
  | some .string, .string s => some (goInt s.size)
  | some (.array n _), _ => some (goInt n)
  | some (.slice _), .slice _ n _ => some (goInt n)
  | some (.map _ _), .map none => some (goInt 0)
  | some (.map _ _), .map (some r) => match m.get r with
    | some (.map es _) => some (goInt es.size)
    | _ => none
  | _, _ => none

theorem absLen_sound {m : AM} {w : World} (hw : WR W σ m w) {t : TypeId} {ts : Array TypeId} {ty : TypeId} {x x' v : Value} (hts : ts[0]? = some t) (hx : RelV σ x x') (h : absLen P t x m = some v) :
    ∃ v', (Builtin.len_ ts ty #[x']).run P w = .ok v' w ∧ RelV σ v v' := by
  unfold absLen at h
  split at h
  · rename_i s ht
    injection h with h; subst h; cases hx
    exact ⟨_, by simp [Builtin.len_, hts, run_underlying ht, goInt], .int _ _⟩
  · rename_i n e ht
    injection h with h; subst h
    exact ⟨_, by simp [Builtin.len_, hts, run_underlying ht, goInt], .int _ _⟩
  · rename_i e a n c ht
    injection h with h; subst h
    cases hx <;> exact ⟨_, by simp [Builtin.len_, hts, run_underlying ht, goInt], .int _ _⟩
  · rename_i k e ht
    injection h with h; subst h; cases hx
    exact ⟨_, by simp [Builtin.len_, hts, run_underlying ht, goInt], .int _ _⟩
  · rename_i k e r ht
    split at h
    · rename_i es ck ho
      injection h with h; subst h
      cases hx with
      | map he =>
        obtain ⟨e1, o1, h1, h2, h3⟩ := hw.obj _ _ ho
        rw [he] at h1; injection h1 with h1; subst h1
        cases h3 with
        | map _ hs hee => exact ⟨_, by simp [Builtin.len_, hts, run_underlying ht, getObj, Sem.run, h2]; rfl, by rw [hs]; exact .int _ _⟩
    · cases h
  · cases h

def absCells (m : AM) (a : Addr) (n : Nat) : Option (List Value) :=
  match m.get a.block with
  | some (.cells c _ _) => if a.spot = none ∧ a.off + n ≤ c.size then some ((c.toList.drop a.off).take n) else none
  | _ => none

theorem absCells_sound {m : AM} {w : World} (hw : WR W σ m w) {a a' : Addr} (ha : RelA σ a a') {n : Nat} {l : List Value} (h : absCells m a n = some l) :
    l.length = n ∧ ∃ l', RelL σ l l' ∧ l'.length = n ∧ ∀ j u, l'[j]? = some u → w.cell? (a'.add j) = some u := by
  unfold absCells at h
  split at h
  · rename_i c el f ho
    split at h
    · rename_i hq
      obtain ⟨q1, q2⟩ := hq
      injection h with h; subst h
      obtain ⟨e, he, hs, rfl⟩ := ha
      obtain ⟨e1, o1, h1, h2, h3⟩ := hw.obj _ _ ho
      rw [he] at h1; injection h1 with h1; subst h1
      cases h3 with
      | cells _ hsz hf hc h0 h1 =>
        rename_i c' f'
        have hlen : ((c.toList.drop a.off).take n).length = n := by simp; omega
        have hin : a.off + n + e.sh ≤ c'.size ∨ n = 0 := by
          rcases Nat.eq_zero_or_pos n with hn | hn
          · exact .inr hn
          · left
            obtain ⟨v', g1, _⟩ := hc (a.off + n - 1) c[a.off + n - 1] (Array.getElem?_eq_getElem (by omega))
            have := (Array.getElem?_eq_some_iff.1 g1).1
            omega
        have hlen' : ((c'.toList.drop (a.off + e.sh)).take n).length = n := by simp; omega
        refine ⟨hlen, (c'.toList.drop (a.off + e.sh)).take n, ⟨by omega, ?_⟩, hlen', ?_⟩
        · intro i v v' hv hv'
          have hi : i < n := by have := (List.getElem?_eq_some_iff.1 hv).1; omega
          rw [List.getElem?_take_of_lt hi, List.getElem?_drop] at hv hv'
          obtain ⟨x, g1, g2⟩ := hc (a.off + i) v (by simpa using hv)
          have g3 : c'[a.off + i + e.sh]? = some v' := by
            have : a.off + e.sh + i = a.off + i + e.sh := by omega
            rw [this] at hv'; simpa using hv'
          rw [g1] at g3; injection g3 with g3; subst g3; exact g2
        · intro j u hu
          have hj : j < n := by have := (List.getElem?_eq_some_iff.1 hu).1; omega
          rw [List.getElem?_take_of_lt hj, List.getElem?_drop] at hu
          have e2 : ((⟨e.blk, a.off + e.sh, none⟩ : Addr).add j) = ⟨e.blk, a.off + e.sh + j, none⟩ := by unfold Addr.add; split <;> simp_all
          rw [e2]
          simp only [World.cell?, h2, Option.isSome_none, Bool.false_eq_true, if_false]
          simpa using hu
    · cases h
  · cases h

theorem RelL.nil : RelL σ [] [] := ⟨rfl, fun i v v' h _ => by simp at h⟩

def absSrc (P : Program) (size : Nat) (tx : TypeId) (x : Value) (m : AM) : Option (Nat × List Value) :=
  match P.underlying tx, x with
  | some (.slice _), .slice none 0 _ => some (0, [])
  | some (.slice _), .slice (some a) n _ => if n = 0 then some (0, []) else match absCells m a (n * size) with
    | some l => if l.all (·.oneCell') = true then some (n, l) else none
    | none => none
  | some .string, .string s => if size = 1 then some (s.size, byteCells s) else none
  | _, _ => none

theorem RelL.oneCell {l l' : List Value} (h : RelL σ l l') (h1 : l.all (·.oneCell') = true) : ∀ u ∈ l', u.oneCell' = true := by
  intro u hu
  obtain ⟨i, hi, rfl⟩ := List.mem_iff_getElem.1 hu
  have hi' : i < l.length := by have := h.size; omega
  exact oneCell_rel (h.each i l[i] l'[i] (List.getElem?_eq_getElem hi') (List.getElem?_eq_getElem hi)) (List.all_eq_true.1 h1 _ (List.getElem_mem hi'))

theorem byteCells_pure (s : ByteArray) : RelL σ (byteCells s) (byteCells s) := by
  refine ⟨rfl, fun i v v' hv hv' => ?_⟩
  rw [hv] at hv'; injection hv' with hv'; subst hv'
  unfold byteCells at hv
  rw [List.getElem?_map] at hv
  cases hq : s.data.toList[i]? with
  | none => rw [hq] at hv; cases hv
  | some b => rw [hq] at hv; injection hv with hv; subst hv; exact .int _ _

theorem absSrc_sound {m : AM} {w : World} (hw : WR W σ m w) {size : Nat} {tx : TypeId} {x x' : Value} (hx : RelV σ x x') {n : Nat} {news : List Value} (h : absSrc P size tx x m = some (n, news)) :
    ∃ news', RelL σ news news' ∧ Src P size tx x' n news' w ∧ (∀ u ∈ news', u.oneCell' = true) ∧ news.length = n * size := by
  unfold absSrc at h
  split at h
  · rename_i e c ht
    injection h with h; injection h with h1 h2; subst h1 h2
    cases hx
    exact ⟨[], RelL.nil, Src.ofNil w ht _, (fun u hu => by cases hu), by simp⟩
  · rename_i e a k c ht
    split at h
    · rename_i hk
      subst hk
      injection h with h; injection h with h1 h2; subst h1 h2
      cases hx with
      | slice l c c' hh hc hu => exact ⟨[], RelL.nil, Src.ofSlice w ht _ 0 _ [] (by simp) (fun j u hj => by simp at hj) (fun u hu => by cases hu), (fun u hu => by cases hu), by simp⟩
      | empty c c' a hc => exact ⟨[], RelL.nil, Src.ofSlice w ht _ 0 _ [] (by simp) (fun j u hj => by simp at hj) (fun u hu => by cases hu), (fun u hu => by cases hu), by simp⟩
      | tail c' a hh hz hr => exact ⟨[], RelL.nil, Src.ofSlice w ht _ 0 _ [] (by simp) (fun j u hj => by simp at hj) (fun u hu => by cases hu), (fun u hu => by cases hu), by simp⟩
    · rename_i hk
      split at h
      · rename_i l hl
        split at h
        · rename_i h1
          injection h with h; injection h with e1 e2; subst e1 e2
          cases hx with
          | slice l0 c c' hh hc hu =>
            rename_i b o e2
            have ha : RelA σ ⟨b, o, none⟩ ⟨e2.blk, o + e2.sh, none⟩ := ⟨e2, hh, rfl, rfl⟩
            obtain ⟨g0, l', g1, g2, g3⟩ := absCells_sound hw ha hl
            exact ⟨l', g1, Src.ofSlice w ht _ k _ l' g2 g3 (g1.oneCell h1), g1.oneCell h1, g0⟩
          | empty c c' a hc => exact absurd rfl hk
          | tail c' a hh hz hr => exact absurd rfl hk
        · cases h
      · cases h
  · rename_i s ht
    split at h
    · rename_i h1
      subst h1
      injection h with h; injection h with e1 e2; subst e1 e2
      cases hx
      exact ⟨_, byteCells_pure s, Src.ofString w ht s, (Src.ofString (P := P) w ht s).one, by rw [byteCells_length]; simp⟩
    · cases h
  · cases h

def absCopy (P : Program) (td : TypeId) (d x : Value) (m : AM) : Option (Value × AM) :=
  match P.underlying td, d with
  | some (.slice elem), .slice base dl _ => match P.info? elem, x with
    | some i, .slice (some b) sl _ => if min sl dl = 0 then some (goInt 0, m) else (match base with
      | some a => match absCells m b (min sl dl * i.size) with
        | some l => match arun P (storeCells a l) m with
          | some (_, m') => some (goInt ((min sl dl : Nat) : Int), m')
          | none => none
        | none => none
      | none => none)
    | some _, .slice none 0 _ => some (goInt 0, m)
    | some i, .string s => if min s.size dl = 0 then some (goInt 0, m) else if i.size ≠ 1 then none else (match base with
      | some a => match arun P (storeCells a ((byteCells s).take (min s.size dl))) m with
        | some (_, m') => some (goInt ((min s.size dl : Nat) : Int), m')
        | none => none
      | none => none)
    | _, _ => none
  | _, _ => none

theorem RelL.take {l l' : List Value} (h : RelL σ l l') (n : Nat) : RelL σ (l.take n) (l'.take n) := by
  refine ⟨by simp [h.size], fun i v v' hv hv' => ?_⟩
  have hi : i < n := by have := (List.getElem?_eq_some_iff.1 hv).1; simp at this; omega
  rw [List.getElem?_take_of_lt hi] at hv hv'
  exact h.each i v v' hv hv'

theorem firstCells_zero {size : Nat} {a : Option Addr} {l c : Nat} (w : World) : (Builtin.firstCells size 0 (.slice a l c)).run P w = .ok #[] w := by
  cases a <;> simp [Builtin.firstCells, loadCells, loadCellsFrom]

theorem absCopy_sound {m m' : AM} {w : World} (hw : WR W σ m w) {td ts ty : TypeId} {d d' x x' v : Value} (hd : RelV σ d d') (hx : RelV σ x x') (h : absCopy P td d x m = some (v, m')) :
    ∃ σ' v' w', Ext σ σ' ∧ (Builtin.copy_ #[td, ts] ty #[d', x']).run P w = .ok v' w' ∧ WR W σ' m' w' ∧ RelV σ' v v' ∧ Quiet σ σ' m m' w w' := by
  unfold absCopy at h
  split at h
  · rename_i elem base dl dc ht
    -- the destination has the same length, and an address where it has one
    have hdst : ∃ base' dc', d' = .slice base' dl dc' ∧ (∀ a, base = some a → dl ≠ 0 → ∃ a', base' = some a' ∧ RelA σ a a') := by
      cases hd with
      | nilSlice l c => exact ⟨none, _, rfl, (fun _ h => by cases h)⟩
      | slice l c c' hh hc hu => exact ⟨_, _, rfl, (fun a h1 _ => by injection h1 with h1; subst h1; exact ⟨_, rfl, _, hh, rfl, rfl⟩)⟩
      | empty c c' a hc => exact ⟨_, _, rfl, (fun _ _ hne => absurd rfl hne)⟩
      | tail c' a hh hz hr => exact ⟨_, _, rfl, (fun _ _ hne => absurd rfl hne)⟩
    obtain ⟨base', dc', rfl, hbase⟩ := hdst
    split at h
    · rename_i i b sl sc hi
      split at h
      · rename_i hn
        injection h with h; injection h with h1 h2; subst h1 h2
        have hlen : ∃ b' sc', x' = .slice (some b') sl sc' := by
          cases hx with
          | slice l c c' hh hc hu => exact ⟨_, _, rfl⟩
          | empty c c' a hc => exact ⟨_, _, rfl⟩
          | tail c' a hh hz hr => exact ⟨_, _, rfl⟩
        obtain ⟨b', sc', rfl⟩ := hlen
        have hn' : Nat.min sl dl = 0 := hn
        refine ⟨σ, goInt 0, w, Ext.refl σ, ?_, hw, .int _ _, Quiet.refl⟩
        cases base' <;> simp [Builtin.copy_, run_underlying ht, Builtin.lenOf, Go.sizeOf, typeInfo, hi, hn', firstCells_zero, storeCells]
      · rename_i hn
        split at h
        · rename_i a
          split at h
          · rename_i l hl
            split at h
            · rename_i u m1 hs
              injection h with h; injection h with h1 h2; subst h1 h2
              cases hx with
              | slice l0 c c' hh hc hu =>
                rename_i bb o e2
                have hab : RelA σ ⟨bb, o, none⟩ ⟨e2.blk, o + e2.sh, none⟩ := ⟨e2, hh, rfl, rfl⟩
                obtain ⟨g0, l', g1, g2, g3⟩ := absCells_sound hw hab hl
                obtain ⟨a', rfl, haa⟩ := hbase _ rfl (by omega)
                obtain ⟨σ', _, w', e1, e3, e4, _, hqq⟩ := Sim.storeCells (P := P) (W := W) l l' σ 0 haa g1 m w _ _ hw hs
                refine ⟨σ', goInt ((min sl dl : Nat) : Int), w', e1, ?_, e4, .int _ _, hqq⟩
                have hf := run_firstCells_some (P := P) w i.size (min sl dl) _ sl c' l' g2 g3
                have hf' : (Builtin.firstCells i.size (Nat.min sl dl) (.slice (some ⟨e2.blk, o + e2.sh, none⟩) sl c')).run P w = .ok l'.toArray w := hf
                simp [Builtin.copy_, run_underlying ht, Builtin.lenOf, Go.sizeOf, typeInfo, hi, hf', e3]
              | empty c c' a hc => simp at hn
              | tail c' a hh hz hr => simp at hn
            · cases h
          · cases h
        · cases h
    · rename_i i sc hi
      injection h with h; injection h with h1 h2; subst h1 h2
      cases hx
      refine ⟨σ, goInt 0, w, Ext.refl σ, ?_, hw, .int _ _, Quiet.refl⟩
      cases base' <;> simp [Builtin.copy_, run_underlying ht, Builtin.lenOf, Go.sizeOf, typeInfo, hi, Builtin.firstCells, storeCells]
    · rename_i i s hi
      split at h
      · rename_i hn
        injection h with h; injection h with h1 h2; subst h1 h2
        cases hx
        have hn' : Nat.min s.size dl = 0 := hn
        refine ⟨σ, goInt 0, w, Ext.refl σ, ?_, hw, .int _ _, Quiet.refl⟩
        cases base' <;> simp [Builtin.copy_, run_underlying ht, Builtin.lenOf, Go.sizeOf, typeInfo, hi, hn', Builtin.firstCells, storeCells]
      · rename_i hn
        split at h
        · cases h
        · rename_i hsz
          split at h
          · rename_i a
            split at h
            · rename_i u m1 hs
              injection h with h; injection h with h1 h2; subst h1 h2
              cases hx
              obtain ⟨a', rfl, haa⟩ := hbase _ rfl (by omega)
              obtain ⟨σ', _, w', e1, e3, e4, _, hqq⟩ := Sim.storeCells (P := P) (W := W) _ _ σ 0 haa ((byteCells_pure s).take (min s.size dl)) m w _ _ hw hs
              refine ⟨σ', goInt ((min s.size dl : Nat) : Int), w', e1, ?_, e4, .int _ _, hqq⟩
              simp only [Builtin.copy_, Builtin.firstCells]
              simp [run_underlying ht, Builtin.lenOf, Go.sizeOf, typeInfo, hi]
              rw [show (storeCells a' (List.take (s.size.min dl) (List.map (fun b => Value.int .u8 (b.toNat : Int)) s.data.toList))).run P w = .ok () w' from e3]
              rfl
            · cases h
          · cases h
    · cases h
  · cases h
end
end Go.Proofs.Ytfghccppoilfhaa
