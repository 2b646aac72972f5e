/-
  A run of a closed piece of a program on an abstract memory, and what it says of every world: part 1, the abstract memory and how it stands to a world. No condition.
-/
import Derived.WalkKit
import Derived.ProofKit
import Derived.Below
import Derived.Test.YtfghccppoilfhaaVd0
namespace Go.Proofs.Ytfghccppoilfhaa
open Go.RowKit

inductive Tr (α : Type) where
  | nil
  | node (v : Option α) (l r : Tr α)

def Tr.get {α : Type} (d : Nat) (t : Tr α) (i : Nat) : Option α :=
  Nat.rec (motive := fun _ => Tr α → Nat → Option α) (fun _ _ => none)
    (fun _ ih t i => Tr.casesOn (motive := fun _ => Option α) t none fun v l r => Bool.casesOn (motive := fun _ => Option α) (Nat.beq i 0) (Bool.casesOn (motive := fun _ => Option α) (Nat.beq (Nat.mod i 2) 0) (ih r (Nat.div i 2)) (ih l (Nat.div i 2))) v) d t i

def Tr.set {α : Type} (x : Option α) (d : Nat) (t : Tr α) (i : Nat) : Tr α :=
  Nat.rec (motive := fun _ => Tr α → Nat → Tr α) (fun t _ => t)
    (fun _ ih t i => Tr.casesOn (motive := fun _ => Tr α) t
      (Bool.casesOn (motive := fun _ => Tr α) (Nat.beq i 0) (Bool.casesOn (motive := fun _ => Tr α) (Nat.beq (Nat.mod i 2) 0) (.node none .nil (ih .nil (Nat.div i 2))) (.node none (ih .nil (Nat.div i 2)) .nil)) (.node x .nil .nil))
      fun v l r => Bool.casesOn (motive := fun _ => Tr α) (Nat.beq i 0) (Bool.casesOn (motive := fun _ => Tr α) (Nat.beq (Nat.mod i 2) 0) (.node v l (ih r (Nat.div i 2))) (.node v (ih l (Nat.div i 2)) r)) (.node x l r)) d t i

theorem bool_if {β : Type} {b : Bool} {p : Prop} [Decidable p] (h : b = decide p) (x y : β) : Bool.casesOn (motive := fun _ => β) b y x = if p then x else y := by
  subst h
  by_cases hp : p
  · simp [hp]
  · simp [hp]
theorem beq_dec (i : Nat) : Nat.beq i 0 = decide (i = 0) := by cases i <;> rfl

theorem Tr.get_node {α : Type} (d i : Nat) (v : Option α) (l r : Tr α) : Tr.get (d + 1) (.node v l r) i = if i = 0 then v else if i % 2 = 0 then l.get d (i / 2) else r.get d (i / 2) := by
  rw [← bool_if (beq_dec i), ← bool_if (beq_dec (i % 2))]
  rfl
theorem Tr.set_nil {α : Type} (x : Option α) (d i : Nat) : Tr.set x (d + 1) .nil i = if i = 0 then .node x .nil .nil else if i % 2 = 0 then .node none (Tr.set x d .nil (i / 2)) .nil else .node none .nil (Tr.set x d .nil (i / 2)) := by
  rw [← bool_if (beq_dec i), ← bool_if (beq_dec (i % 2))]
  rfl
theorem Tr.set_node {α : Type} (x : Option α) (d i : Nat) (v : Option α) (l r : Tr α) : Tr.set x (d + 1) (.node v l r) i = if i = 0 then .node x l r else if i % 2 = 0 then .node v (Tr.set x d l (i / 2)) r else .node v l (Tr.set x d r (i / 2)) := by
  rw [← bool_if (beq_dec i), ← bool_if (beq_dec (i % 2))]
  rfl

theorem Tr.get_nil {α : Type} (d i : Nat) : Tr.get d (.nil : Tr α) i = none := by cases d <;> rfl

theorem Tr.get_set_ne {α : Type} (x : Option α) : ∀ (d : Nat) (t : Tr α) (i j : Nat), i ≠ j → (Tr.set x d t i).get d j = t.get d j := by
  intro d
  induction d with
  | zero => intro t i j _; rfl
  | succ d ih =>
    intro t i j h
    cases t with
    | nil =>
      rw [Tr.get_nil, Tr.set_nil]
      by_cases hi : i = 0
      · have hj : j ≠ 0 := by omega
        simp [hi, Tr.get_node, hj, Tr.get_nil]
      · simp only [hi, if_false]
        split
        · by_cases hj : j = 0
          · simp [Tr.get_node, hj]
          · simp only [Tr.get_node, hj, if_false]
            split
            · rw [ih _ _ _ (by omega), Tr.get_nil]
            · rw [Tr.get_nil]
        · by_cases hj : j = 0
          · simp [Tr.get_node, hj]
          · simp only [Tr.get_node, hj, if_false]
            split
            · rw [Tr.get_nil]
            · rw [ih _ _ _ (by omega), Tr.get_nil]
    | node v l r =>
      rw [Tr.set_node]
      by_cases hi : i = 0
      · have hj : j ≠ 0 := by omega
        simp [hi, Tr.get_node, hj]
      · simp only [hi, if_false]
        split
        · by_cases hj : j = 0
          · simp [Tr.get_node, hj]
          · simp only [Tr.get_node, hj, if_false]
            split
            · rw [ih _ _ _ (by omega)]
            · rfl
        · by_cases hj : j = 0
          · simp [Tr.get_node, hj]
          · simp only [Tr.get_node, hj, if_false]
            split
            · rfl
            · rw [ih _ _ _ (by omega)]

theorem Tr.get_set {α : Type} (x : Option α) : ∀ (d : Nat) (t : Tr α) (i : Nat), (Tr.set x d t i).get d i = x ∨ (Tr.set x d t i).get d i = none := by
  intro d
  induction d with
  | zero => intro t i; right; rfl
  | succ d ih =>
    intro t i
    cases t with
    | nil =>
      rw [Tr.set_nil]
      by_cases hi : i = 0
      · left; simp [hi, Tr.get_node]
      · simp only [hi, if_false]
        split <;> rename_i h2 <;> simp only [Tr.get_node, hi, h2, if_false, if_true] <;> exact ih _ _
    | node v l r =>
      rw [Tr.set_node]
      by_cases hi : i = 0
      · left; simp [hi, Tr.get_node]
      · simp only [hi, if_false]
        split <;> rename_i h2 <;> simp only [Tr.get_node, hi, h2, if_false, if_true] <;> exact ih _ _

theorem Tr.get_of_set {α : Type} {x : Option α} {d : Nat} {t : Tr α} {i j : Nat} {o : α} (h : (Tr.set x d t i).get d j = some o) : (i = j ∧ x = some o) ∨ (i ≠ j ∧ t.get d j = some o) := by
  by_cases e : i = j
  · subst e
    rcases Tr.get_set x d t i with h' | h' <;> rw [h'] at h
    · exact .inl ⟨rfl, h⟩
    · cases h
  · rw [Tr.get_set_ne x d t i j e] at h
    exact .inr ⟨e, h⟩

abbrev deep : Nat := 24

def capU : Nat := 18446744073709551616
def somewhere : Nat := 0

structure AM where
  next : Nat
  heap : Tr Obj
  tick : Nat

def AM.get (m : AM) (i : Nat) : Option Obj := m.heap.get deep i
def AM.set (m : AM) (i : Nat) (o : Option Obj) : AM := ⟨m.next, Tr.set o deep m.heap i, m.tick + 1⟩
def AM.push (m : AM) (o : Obj) : AM := ⟨m.next + 1, Tr.set (some o) deep m.heap m.next, m.tick + 1⟩

def AM.cell? (m : AM) (a : Addr) : Option Value :=
  match m.get a.block with
  | some (.cells c _ _) => if a.spot.isSome then none else c[a.off]?
  | _ => none

def AM.setCell? (m : AM) (a : Addr) (v : Value) : Option AM :=
  match m.get a.block with
  | some (.cells c e f) => if a.spot.isSome then none else if a.off < c.size then some (m.set a.block (some (.cells (c.setIfInBounds a.off v) e f))) else none
  | _ => none

structure Ent where
  blk : Nat
  sh : Nat
  csize : Nat
  esz : Nat

structure Ren where
  ent : Nat → Option Ent
  env : Nat → Value
  one : ∀ i, (env i).oneCell' = true

inductive RelV (σ : Ren) : Value → Value → Prop where
  | bool (b : Bool) : RelV σ (.bool b) (.bool b)
  | int (k : IntKind) (n : Int) : RelV σ (.int k n) (.int k n)
  | string (s : ByteArray) : RelV σ (.string s) (.string s)
  | token (i : Nat) : RelV σ (.float .f64 i) (σ.env i)
  | any {v : Value} (h : v.oneCell' = true) : RelV σ (.complex .f32 0 0) v
  | nilPtr : RelV σ (.pointer none) (.pointer none)
  | ptr {b o : Nat} {e : Ent} (h : σ.ent b = some e) : RelV σ (.pointer (some ⟨b, o, none⟩)) (.pointer (some ⟨e.blk, o + e.sh, none⟩))
  | nilSlice (l c : Nat) : RelV σ (.slice none l c) (.slice none l c)
  | slice {b o : Nat} {e : Ent} (l c c' : Nat) (h : σ.ent b = some e) (hc : c < capU → c' = c)
      (hu : capU ≤ c → l ≤ c' ∧ c' < 9223372036854775808 ∧ 0 < e.esz ∧ c = capU + e.esz ∧ o + e.sh + c' * e.esz = e.csize) : RelV σ (.slice (some ⟨b, o, none⟩) l c) (.slice (some ⟨e.blk, o + e.sh, none⟩) l c')
  | empty (c c' : Nat) (a : Addr) (hc : c < capU → c' = c) : RelV σ (.slice (some ⟨somewhere, 0, none⟩) 0 c) (.slice (some a) 0 c')
  | tail {b : Nat} {e : Ent} (c' : Nat) (a : Addr) (h : σ.ent b = some e) (hz : 0 < e.esz) (hr : c' = 0 ∨ ∃ o, a = ⟨e.blk, o + e.sh, none⟩ ∧ c' < 9223372036854775808 ∧ o + e.sh + c' * e.esz = e.csize) :
      RelV σ (.slice (some ⟨somewhere, b + 1, none⟩) 0 (capU + e.esz)) (.slice (some a) 0 c')
  | nilMap : RelV σ (.map none) (.map none)
  | map {b : Nat} {e : Ent} (h : σ.ent b = some e) : RelV σ (.map (some b)) (.map (some e.blk))
  | func (fn : Fn) {f f' c c' : Array Value} (hf : f.size = f'.size) (hc : c.size = c'.size) (hf' : ∀ (i : Nat) (v v' : Value), f[i]? = some v → f'[i]? = some v' → RelV σ v v')
      (hc' : ∀ (i : Nat) (v v' : Value), c[i]? = some v → c'[i]? = some v' → RelV σ v v') : RelV σ (.func fn f c) (.func fn f' c')
  | nilFunc : RelV σ .nilFunc .nilFunc
  | iface (t : TypeId) {v v' : Value} (h : RelV σ v v') : RelV σ (.iface t v) (.iface t v')
  | nilIface : RelV σ .nilIface .nilIface
  | agg {c c' : Array Value} (hc : c.size = c'.size) (hc' : ∀ (i : Nat) (v v' : Value), c[i]? = some v → c'[i]? = some v' → RelV σ v v') : RelV σ (.agg c) (.agg c')
  | tuple {c c' : Array Value} (hc : c.size = c'.size) (hc' : ∀ (i : Nat) (v v' : Value), c[i]? = some v → c'[i]? = some v' → RelV σ v v') : RelV σ (.tuple c) (.tuple c')

structure RelVs (σ : Ren) (c c' : Array Value) : Prop where
  size : c.size = c'.size
  each : ∀ (i : Nat) (v v' : Value), c[i]? = some v → c'[i]? = some v' → RelV σ v v'

structure Ext (σ σ' : Ren) : Prop where
  ent : ∀ i e, σ.ent i = some e → σ'.ent i = some e
  env : σ'.env = σ.env

theorem Ext.refl (σ : Ren) : Ext σ σ := ⟨fun _ _ h => h, rfl⟩
theorem Ext.trans {a b c : Ren} (h : Ext a b) (k : Ext b c) : Ext a c := ⟨fun i e he => k.ent i e (h.ent i e he), k.env.trans h.env⟩

theorem RelV.ext {σ σ' : Ren} (hx : Ext σ σ') {v v' : Value} (h : RelV σ v v') : RelV σ' v v' := by
  induction h with
  | bool b => exact .bool b
  | int k n => exact .int k n
  | string s => exact .string s
  | token i => rw [← hx.env]; exact .token i
  | any h => exact .any h
  | nilPtr => exact .nilPtr
  | ptr h => exact .ptr (hx.ent _ _ h)
  | nilSlice l c => exact .nilSlice l c
  | slice l c c' h hc hu => exact .slice l c c' (hx.ent _ _ h) hc hu
  | empty c c' a hc => exact .empty c c' a hc
  | tail c' a h hz hr => exact .tail c' a (hx.ent _ _ h) hz hr
  | nilMap => exact .nilMap
  | map h => exact .map (hx.ent _ _ h)
  | func fn hf hc _ _ ihf ihc => exact .func fn hf hc ihf ihc
  | nilFunc => exact .nilFunc
  | iface t _ ih => exact .iface t ih
  | nilIface => exact .nilIface
  | agg hc _ ih => exact .agg hc ih
  | tuple hc _ ih => exact .tuple hc ih

theorem RelVs.ext {σ σ' : Ren} (hx : Ext σ σ') {c c' : Array Value} (h : RelVs σ c c') : RelVs σ' c c' := ⟨h.size, fun i v v' a b => (h.each i v v' a b).ext hx⟩

def pureD : Nat → Value → Bool
  | 0, _ => false
  | _ + 1, .bool _ => true
  | _ + 1, .int _ _ => true
  | _ + 1, .string _ => true
  | _ + 1, .pointer a => a.isNone
  | _ + 1, .slice a _ _ => a.isNone
  | _ + 1, .map a => a.isNone
  | _ + 1, .nilFunc => true
  | _ + 1, .nilIface => true
  | d + 1, .func _ f c => f.toList.all (pureD d) && c.toList.all (pureD d)
  | d + 1, .iface _ v => pureD d v
  | d + 1, .agg c => c.toList.all (pureD d)
  | d + 1, .tuple c => c.toList.all (pureD d)
  | _ + 1, _ => false

theorem relVs_pure {σ : Ren} {d : Nat} (ih : ∀ v, pureD d v = true → RelV σ v v) {c : Array Value} (h : c.toList.all (pureD d) = true) (i : Nat) (v v' : Value) (hv : c[i]? = some v) (hv' : c[i]? = some v') : RelV σ v v' := by
  rw [hv] at hv'
  injection hv' with e
  subst e
  refine ih v (List.all_eq_true.1 h v ?_)
  rw [Array.getElem?_eq_some_iff] at hv
  obtain ⟨hi, rfl⟩ := hv
  simp

theorem pure_rel {σ : Ren} : ∀ (d : Nat) (v : Value), pureD d v = true → RelV σ v v := by
  intro d
  induction d with
  | zero => intro v h; simp [pureD] at h
  | succ d ih =>
    intro v h
    cases v with
    | bool b => exact .bool b
    | int k n => exact .int k n
    | string s => exact .string s
    | pointer a => cases a <;> simp [pureD] at h; exact .nilPtr
    | slice a l c => cases a <;> simp [pureD] at h; exact .nilSlice l c
    | map a => cases a <;> simp [pureD] at h; exact .nilMap
    | nilFunc => exact .nilFunc
    | nilIface => exact .nilIface
    | func fn f c =>
      simp only [pureD, Bool.and_eq_true] at h
      exact .func fn rfl rfl (relVs_pure ih h.1) (relVs_pure ih h.2)
    | iface t v => exact .iface t (ih v h)
    | agg c => exact .agg rfl (relVs_pure ih h)
    | tuple c => exact .tuple rfl (relVs_pure ih h)
    | float k b => simp [pureD] at h
    | complex k a b => simp [pureD] at h
    | chan r => simp [pureD] at h

theorem rows_eq {σ : Ren} {d : Nat} (ih : ∀ v v', pureD d v = true → RelV σ v v' → v' = v) {c c' : Array Value} (h : c.toList.all (pureD d) = true) (hs : c.size = c'.size)
    (he : ∀ (i : Nat) (v v' : Value), c[i]? = some v → c'[i]? = some v' → RelV σ v v') : c' = c := by
  apply Array.ext hs.symm
  intro i hi hi'
  have h1 : c[i]? = some c[i] := Array.getElem?_eq_getElem hi'
  have h2 : c'[i]? = some c'[i] := Array.getElem?_eq_getElem hi
  exact ih _ _ (List.all_eq_true.1 h _ (by simp)) (he i _ _ h1 h2)

theorem pure_eq {σ : Ren} : ∀ (d : Nat) (v v' : Value), pureD d v = true → RelV σ v v' → v' = v := by
  intro d
  induction d with
  | zero => intro v v' h; simp [pureD] at h
  | succ d ih =>
    intro v v' h hr
    cases hr with
    | bool b => rfl
    | int k n => rfl
    | string s => rfl
    | token i => simp [pureD] at h
    | any h1 => simp [pureD] at h
    | nilPtr => rfl
    | ptr he => simp [pureD] at h
    | nilSlice l c => rfl
    | slice l c c' he hc hu => simp [pureD] at h
    | empty c c' a hc => simp [pureD] at h
    | tail c' a he hz hr => simp [pureD] at h
    | nilMap => rfl
    | map he => simp [pureD] at h
    | func fn hf hc hf' hc' =>
      simp only [pureD, Bool.and_eq_true] at h
      rw [rows_eq ih h.1 hf hf', rows_eq ih h.2 hc hc']
    | nilFunc => rfl
    | iface t hv => rw [ih _ _ h hv]
    | nilIface => rfl
    | agg hc hc' => rw [rows_eq ih h hc hc']
    | tuple hc hc' => rw [rows_eq ih h hc hc']

inductive RelO (σ : Ren) (e : Ent) : Obj → Obj → Prop where
  | cells {c c' : Array Value} (el : TypeId) {f f' : Nat × Nat} (hsz : c'.size = e.csize) (hf : ∀ j, j < c'.size → f'.1 ≤ j → j < f'.2 → False)
      (hc : ∀ (j : Nat) (v : Value), c[j]? = some v → ∃ v', c'[j + e.sh]? = some v' ∧ RelV σ v v') (h0 : f = (0, 0) → c'.size = c.size ∧ e.sh = 0 ∧ f' = (0, 0))
      (h1 : f ≠ (0, 0) → e.esz = f.2) : RelO σ e (.cells c el f) (.cells c' el f')
  | map {es es' : Array MapEntry} (ck : Nat) (hs : es.size = es'.size) (he : ∀ (i : Nat) (x x' : MapEntry), es[i]? = some x → es'[i]? = some x' → x'.born = x.born ∧ pureD 8 x.key = true ∧ x'.key = x.key ∧ RelV σ x.val x'.val) :
      RelO σ e (.map es ck) (.map es' ck)
  | stringIter (s : ByteArray) (pos : Nat) (h0 : e.sh = 0) : RelO σ e (.stringIter s pos) (.stringIter s pos)
  | mapIterNil (since : Nat) (seen : Array Nat) (last : Nat) (h0 : e.sh = 0) : RelO σ e (.mapIter none since seen last) (.mapIter none since seen last)
  | mapIter {r : Nat} {e' : Ent} (h : σ.ent r = some e') (since : Nat) (seen : Array Nat) (last : Nat) (h0 : e.sh = 0) : RelO σ e (.mapIter (some r) since seen last) (.mapIter (some e'.blk) since seen last)

theorem RelO.ext {σ σ' : Ren} {e : Ent} (hx : Ext σ σ') {o o' : Obj} (h : RelO σ e o o') : RelO σ' e o o' := by
  cases h with
  | cells el hsz hf hc h0 h1 =>
    refine .cells el hsz hf (fun j v hv => ?_) h0 h1
    obtain ⟨v', h1, h2⟩ := hc j v hv
    exact ⟨v', h1, h2.ext hx⟩
  | map ck hs he => exact .map ck hs fun i x x' a b => let ⟨h1, h2, h3, h4⟩ := he i x x' a b; ⟨h1, h2, h3, h4.ext hx⟩
  | stringIter s p h => exact .stringIter s p h
  | mapIterNil a b c h => exact .mapIterNil a b c h
  | mapIter h a b c h0 => exact .mapIter (hx.ent _ _ h) a b c h0

structure Ref where
  w : World
  K : Nat → Prop

def Ref.mine (R : Ref) (b : Nat) : Prop := R.K b ∨ R.w.heap.size ≤ b

structure Frame (R : Ref) (w : World) : Prop where
  os : w.os = R.w.os
  tape : w.tape = R.w.tape
  output : w.output = R.w.output
  size : R.w.heap.size ≤ w.heap.size
  block : ∀ k, k < R.w.heap.size → ¬ R.K k → w.heap[k]? = R.w.heap[k]?
  drawn : R.w.drawn ≤ w.drawn

theorem Frame.drew {R : Ref} {w : World} (h : Frame R w) : Frame R w.drew := ⟨h.os, h.tape, h.output, h.size, h.block, Nat.le_succ_of_le h.drawn⟩
theorem Frame.alloc {R : Ref} {w : World} (h : Frame R w) (o : Obj) : Frame R (w.alloc o) :=
  ⟨h.os, h.tape, h.output, by have := h.size; simp; omega, fun k hk hn => (Below.heap_alloc w o k (Nat.lt_of_lt_of_le hk h.size)).trans (h.block k hk hn), h.drawn⟩
theorem Frame.one {R : Ref} {w w' : World} (h : Frame R w) {b : Nat} (hb : R.mine b) (ho : w'.os = w.os) (ht : w'.tape = w.tape) (hu : w'.output = w.output) (hs : w.heap.size = w'.heap.size) (hk : ∀ k, k ≠ b → w'.heap[k]? = w.heap[k]?) (hd : w'.drawn = w.drawn) : Frame R w' :=
  ⟨ho.trans h.os, ht.trans h.tape, hu.trans h.output, hs ▸ h.size, fun k hk' hn => by
    have hne : k ≠ b := by
      rintro rfl
      rcases hb with hb | hb
      · exact hn hb
      · omega
    exact (hk k hne).trans (h.block k hk' hn), hd ▸ h.drawn⟩
theorem Frame.setCell {R : Ref} {w : World} (h : Frame R w) {p : Addr} (hp : R.mine p.block) (u : Value) : Frame R (w.setCell p u) :=
  h.one hp rfl rfl rfl (by simp [World.setCell]) (fun k hk => Below.heap_setCell _ _ _ _ hk) rfl

structure WR (W : Ref) (σ : Ren) (m : AM) (w : World) : Prop where
  below : Frame W w
  pos : 0 < m.next
  ent : ∀ i e, σ.ent i = some e → 0 < i ∧ i < m.next ∧ W.mine e.blk ∧ e.blk < w.heap.size
  obj : ∀ i o, m.get i = some o → ∃ e o', σ.ent i = some e ∧ w.heap[e.blk]? = some o' ∧ RelO σ e o o'
  inj : ∀ i j o o' e e', m.get i = some o → m.get j = some o' → σ.ent i = some e → σ.ent j = some e' → e.blk = e'.blk → i = j

end Go.Proofs.Ytfghccppoilfhaa
