/-
  The same, part 10: the run on abstract memory says what the program does in each world. Conditions: the types' zero values bear no address; functions are entered; the program's regions draw one order.
-/
import Derived.Test.YtfghccppoilfhaaCeI
namespace Go.Proofs.Ytfghccppoilfhaa
open Go.RowKit

section
variable {P : Program} {W : Ref} {σ : Ren}

structure RelT (σ : Ren) (n : Nat) (t : Tr Value) (a : Act) : Prop where
  defers : a.defers = []
  size : a.tmps.size = n
  small : n ≤ 1000000
  each : ∀ i, RelV σ (tget t i) (a.tmps.getD i undef)

theorem RelT.ext {σ' : Ren} {n : Nat} {t : Tr Value} {a : Act} (h : RelT σ n t a) (hx : Ext σ σ') : RelT σ' n t a := ⟨h.defers, h.size, h.small, fun i => (h.each i).ext hx⟩

theorem RelT.eval {n : Nat} {t : Tr Value} {a : Act} (h : RelT σ n t a) : RelE σ (aev t) a.eval := by
  intro x hx
  cases x with
  | tmp i => exact h.each i
  | const v => exact pure_rel 8 v hx
  | global g => cases hx
  | func f => exact .func _ rfl rfl (fun i v v' h _ => by simp at h) (fun i v v' h _ => by simp at h)

theorem undef_rel : RelV σ undef undef := .tuple rfl (fun i v v' h _ => by simp at h)

theorem RelT.put {n : Nat} {t t' : Tr Value} {a : Act} (h : RelT σ n t a) {dst : Option Tmp} {v v' : Value} (hp : aput n t dst v = some t') (hv : RelV σ v v') : RelT σ n t' (a.put dst v') := by
  unfold aput at hp
  cases dst with
  | none => injection hp with hp; subst hp; exact h
  | some d =>
    simp only at hp
    split at hp
    · rename_i hd
      injection hp with hp; subst hp
      have hsm : d < 1000000 := Nat.lt_of_lt_of_le hd h.small
      refine ⟨h.defers, by simp [Act.put, h.size], h.small, fun i => ?_⟩
      by_cases hi : d = i
      · subst hi
        rw [tget_set_same _ _ _ hsm]
        have : (a.tmps.setIfInBounds d v').getD d undef = v' := by simp [Array.getD_eq_getD_getElem?, h.size, hd]
        simp only [Act.put]; rw [this]; exact hv
      · rw [tget_set_other _ _ _ _ hi]
        have : (a.tmps.setIfInBounds d v').getD i undef = a.tmps.getD i undef := by simp [Array.getD_eq_getD_getElem?, hi]
        simp only [Act.put]; rw [this]; exact h.each i
    · cases hp

theorem RelT.yields {n : Nat} {t : Tr Value} {a : Act} (h : RelT σ n t a) {ops : Array Oper} {o : Oper} {β : Bool} (hy : aYield ops t o = some β) : Region.wanted o (yielded ops a.tmps) = β := by
  unfold aYield at hy
  unfold Region.wanted
  cases hg : o.guard with
  | none => (rw [hg] at hy; try simpa using hy)
  | some q =>
    obtain ⟨j, b⟩ := q
    rw [hg] at hy
    simp only at hy ⊢
    unfold yielded
    cases hd : (ops[j]?).bind (·.dst) with
    | none => (rw [hd] at hy; cases hy; try simp)
    | some d =>
      rw [hd] at hy
      simp only [Option.bind_some] at hy ⊢
      have hr := h.each d
      have key : ∀ x, a.tmps.getD d undef = .bool x → a.tmps[d]? = some (.bool x) := by
        intro x hx
        rw [Array.getD_eq_getD_getElem?] at hx
        cases hq : a.tmps[d]? with
        | none => rw [hq] at hx; cases hx
        | some u => rw [hq] at hx; simpa using hx
      split at hy
      · rename_i x hx
        injection hy with hy; subst hy
        rw [hx] at hr
        have h2 := key x (by generalize hq : a.tmps.getD d undef = q at hr; cases hr; rfl)
        rw [h2]; simp
      · rename_i vs hx
        injection hy with hy; subst hy
        rw [hx] at hr
        have h2 : ∃ c, a.tmps.getD d undef = .tuple c := by generalize hq : a.tmps.getD d undef = q at hr; cases hr with | tuple _ _ => exact ⟨_, rfl⟩
        obtain ⟨c, hc⟩ := h2
        rw [Array.getD_eq_getD_getElem?] at hc
        cases hq : a.tmps[d]? with
        | none => simp
        | some u => rw [hq] at hc; simp only [Option.getD_some] at hc; subst hc; simp
      · cases hy

def CallOk (P : Program) (T : (Nat → Value) → Prop) (call : Callee1) : Prop :=
  ∀ f args m v m', call f args m = some (v, m') → ∀ (W : Ref) (σ : Ren) w args', T σ.env → WR W σ m w → RelVs σ args args' →
    Calls P f args' w fun e w' => ∃ σ' v', e = .returned v' ∧ Ext σ σ' ∧ WR W σ' m' w' ∧ RelV σ' v v'

theorem Ext.stand {T : (Nat → Value) → Prop} {σ σ' : Ren} (hx : Ext σ σ') (h : T σ.env) : T σ'.env := by rw [hx.env]; exact h

theorem upon_value {o : Oper} {a : Act} {next : Act → World → Prop} {Q : Exit → Act → World → Prop} {w w' : World} {v : Value} (hr : (execOp a.eval o).run P w = .ok (.value v) w') (h : next (a.put o.dst v) w') : o.wp P a w next Q := by
  unfold Oper.wp; rw [hr]; exact h
theorem upon_skip {o : Oper} {a : Act} {next : Act → World → Prop} {Q : Exit → Act → World → Prop} {w w' : World} (hr : (execOp a.eval o).run P w = .ok .skip w') (h : next (a.put o.dst undef) w') : o.wp P a w next Q := by
  unfold Oper.wp; rw [hr]; exact h
theorem upon_enter {o : Oper} {a : Act} {next : Act → World → Prop} {Q : Exit → Act → World → Prop} {w w' : World} {f : FuncId} {args : Array Value} (hr : (execOp a.eval o).run P w = .ok (.enter f args) w')
    (h : Calls P f args w' fun e w'' => ∃ v, e = .returned v ∧ next (a.put o.dst v) w'') : o.wp P a w next Q := by
  unfold Oper.wp; rw [hr]
  show Calls P f args w' _
  refine h.mono fun e w'' hh => ?_
  obtain ⟨v, rfl, hv⟩ := hh
  exact hv

def Then (W : Ref) (σ : Ren) (n : Nat) (t : Tr Value) (m : AM) (next : Act → World → Prop) : Prop := ∀ σ' a w, Ext σ σ' → WR W σ' m w → RelT σ' n t a → next a w

theorem Then.ext {σ' : Ren} {n : Nat} {t : Tr Value} {m : AM} {next : Act → World → Prop} (h : Then W σ n t m next) (hx : Ext σ σ') : Then W σ' n t m next := fun σ2 a w h2 => h σ2 a w (hx.trans h2)

theorem evalOps_sound (hz : zerosOk P = true) (hc : callsOk P = true) {call : Callee1} {T : (Nat → Value) → Prop} (hcall : CallOk P T call) {n : Nat} {ops : Array Oper} {Q : Exit → Act → World → Prop} :
    ∀ (l : List Oper) (t t' : Tr Value) (m m' : AM) (σ : Ren) (a : Act) (w : World), T σ.env → evalOps P call n ops l t m = some (t', m') → WR W σ m w → RelT σ n t a → Then W σ n t' m' (Q .normal) → wpList P ops Q l a w := by
  intro l
  induction l with
  | nil =>
    intro t t' m m' σ a w hT h hw ht hQ
    injection h with h; injection h with h1 h2; subst h1 h2
    exact hQ σ a w (Ext.refl σ) hw ht
  | cons o rest ih =>
    intro t t' m m' σ a w hT h hw ht hQ
    unfold evalOps at h
    unfold wpList
    split at h
    · cases h
    · rename_i hy
      rw [ht.yields hy]
      simp only [Bool.false_eq_true, if_false]
      split at h
      · rename_i t1 hp
        exact ih t1 t' m m' σ _ w hT h hw (ht.put hp undef_rel) hQ
      · cases h
    · rename_i hy
      rw [ht.yields hy]
      simp only [if_true]
      left
      split at h
      · cases h
      · rename_i v m1 hs
        obtain ⟨σ1, n1, w1, e1, e2, e3, e4, _⟩ := step_sound hz hc ht.eval o _ _ hs hw
        cases e4 with
        | value hv =>
          split at h
          · rename_i t1 hp
            exact upon_value e2 (ih t1 t' m1 m' σ1 _ w1 (e1.stand hT) h e3 ((ht.ext e1).put hp hv) (hQ.ext e1))
          · cases h
      · rename_i m1 hs
        obtain ⟨σ1, n1, w1, e1, e2, e3, e4, _⟩ := step_sound hz hc ht.eval o _ _ hs hw
        cases e4 with
        | skip =>
          split at h
          · rename_i t1 hp
            exact upon_skip e2 (ih t1 t' m1 m' σ1 _ w1 (e1.stand hT) h e3 ((ht.ext e1).put hp undef_rel) (hQ.ext e1))
          · cases h
      · rename_i f args m1 hs
        obtain ⟨σ1, n1, w1, e1, e2, e3, e4, _⟩ := step_sound hz hc ht.eval o _ _ hs hw
        cases e4 with
        | enter _ hargs =>
          split at h
          · rename_i v m2 hcl
            split at h
            · rename_i t1 hp
              refine upon_enter e2 ((hcall _ _ _ _ _ hcl W σ1 w1 _ (e1.stand hT) e3 hargs).mono fun e w2 hh => ?_)
              obtain ⟨σ2, v', rfl, g1, g2, g3⟩ := hh
              exact ⟨v', rfl, ih t1 t' m2 m' σ2 _ w2 (g1.stand (e1.stand hT)) h g2 (((ht.ext e1).ext g1).put hp g3) ((hQ.ext e1).ext g1)⟩
            · cases h
          · cases h

/-! ### A region that draws its order -/

def Fun1 : Value → Prop
  | .slice (some a) _ _ => a.block ≠ somewhere
  | .complex _ _ _ => False
  | .agg _ => False
  | .tuple _ => False
  | .iface _ _ => False
  | .func _ f c => f.size = 0 ∧ c.size = 0
  | _ => True

theorem sameD_eq : ∀ (d : Nat) (u v : Value), sameD d u v = true → u = v ∧ Fun1 u := by
  intro d u v h
  cases d with
  | zero => simp [sameD] at h
  | succ d =>
    cases u <;> cases v <;> simp only [sameD] at h <;> first
      | (cases h; done)
      | (simp only [beq_iff_eq] at h; subst h; exact ⟨rfl, trivial⟩)
      | (simp only [decide_eq_true_eq] at h; subst h; exact ⟨rfl, trivial⟩)
      | (simp only [beq_iff_eq, decide_eq_true_eq, Bool.and_eq_true] at h; obtain ⟨rfl, rfl⟩ := h; exact ⟨rfl, trivial⟩)
      | exact ⟨rfl, trivial⟩
      | skip
    · rename_i s1 s2
      simp only [decide_eq_true_eq] at h
      obtain ⟨s1⟩ := s1
      obtain ⟨s2⟩ := s2
      simp only at h
      subst h
      exact ⟨rfl, trivial⟩
    · -- slices
      rename_i a l c b l' c'
      cases a <;> cases b <;> simp only at h
      · simp only [beq_iff_eq, Bool.and_eq_true] at h
        obtain ⟨rfl, rfl⟩ := h
        exact ⟨rfl, trivial⟩
      · cases h
      · cases h
      · simp only [beq_iff_eq, bne_iff_ne, decide_eq_true_eq, Bool.and_eq_true] at h
        obtain ⟨⟨⟨h0, rfl⟩, rfl⟩, rfl⟩ := h
        exact ⟨rfl, h0⟩
    · rename_i fn f c gn g e
      simp only [decide_eq_true_eq, Bool.and_eq_true, Array.isEmpty_iff] at h
      obtain ⟨⟨⟨⟨rfl, rfl⟩, rfl⟩, rfl⟩, rfl⟩ := h
      exact ⟨rfl, rfl, rfl⟩

theorem fun_rel {σ' : Ren} (hx : Ext σ σ') {u x y : Value} (hf : Fun1 u) (hu : RelV σ u x) (hv : RelV σ' u y) : y = x := by
  cases hu with
  | bool b => cases hv; rfl
  | int k n => cases hv; rfl
  | string s => cases hv; rfl
  | token i => cases hv; rw [hx.env]
  | any h => exact hf.elim
  | nilPtr => cases hv; rfl
  | ptr h =>
    cases hv with
    | ptr h' => rw [hx.ent _ _ h] at h'; injection h' with h'; subst h'; rfl
  | nilSlice l c => cases hv; rfl
  | slice l c c' h hc hu =>
    cases hv with
    | slice _ _ c2 h' hc2 hu2 =>
      rw [hx.ent _ _ h] at h'; injection h' with h'; subst h'
      have : c2 = c' := by
        by_cases hcu : capU ≤ c
        · obtain ⟨_, _, g1, _, g2⟩ := hu hcu
          obtain ⟨_, _, _, _, g4⟩ := hu2 hcu
          exact Nat.eq_of_mul_eq_mul_right g1 (by omega)
        · rw [hc (by omega), hc2 (by omega)]
      rw [this]
    | empty c c2 a hc2 => exact absurd rfl hf
    | tail c2 a hh hz hr => exact absurd rfl hf
  | empty c c' a hc => exact absurd rfl hf
  | tail c' a hh hz hr => exact absurd rfl hf
  | nilMap => cases hv; rfl
  | map h =>
    cases hv with
    | map h' => rw [hx.ent _ _ h] at h'; injection h' with h'; subst h'; rfl
  | func fn hs hc hf' hc' =>
    obtain ⟨z1, z2⟩ := hf
    have key : ∀ (a b : Array Value), a.size = 0 → b.size = 0 → a = b := fun a b ha hb => by rw [Array.eq_empty_of_size_eq_zero ha, Array.eq_empty_of_size_eq_zero hb]
    cases hv with
    | func _ hs2 hc2 _ _ =>
      congr 1
      · exact key _ _ (by omega) (by omega)
      · exact key _ _ (by omega) (by omega)
  | nilFunc => cases hv; rfl
  | iface t h => exact hf.elim
  | nilIface => cases hv; rfl
  | agg h h' => exact hf.elim
  | tuple h h' => exact hf.elim

def Leaves (ops : Array Oper) (σ : Ren) (rd : Seen) (j : Nat) (w w' : World) : Prop :=
  ∀ r ∈ rd, unrelated ops r.1 j = true → ∀ e, σ.ent r.2.1 = some e → (∀ q, q < r.2.2.2 → w'.cell? ⟨e.blk, r.2.2.1 + q + e.sh, none⟩ = w.cell? ⟨e.blk, r.2.2.1 + q + e.sh, none⟩) ∧ (r.2.2.2 = 0 → w'.heap[e.blk]? = w.heap[e.blk]?)

theorem Leaves.refl {ops : Array Oper} {rd : Seen} {j : Nat} {w : World} : Leaves ops σ rd j w w := fun _ _ _ _ _ => ⟨fun _ _ => rfl, fun _ => rfl⟩

theorem sameRange_at {m0 m : AM} {b o : Nat} : ∀ (k j : Nat), sameRange m0 m b o k = true → j < k → ∃ u v, m0.cell? ⟨b, o + j, none⟩ = some u ∧ m.cell? ⟨b, o + j, none⟩ = some v ∧ sameD 8 u v = true := by
  intro k
  induction k with
  | zero => intro j _ hj; omega
  | succ k ih =>
    intro j h hj
    simp only [sameRange, Bool.and_eq_true] at h
    by_cases hjk : j = k
    · subst hjk
      have h1 := h.1
      split at h1
      · rename_i u v hu hv
        exact ⟨u, v, hu, hv, h1⟩
      · cases h1
    · exact ih j h.2 (by omega)

theorem sameL_rel {σ' : Ren} (hx : Ext σ σ') : ∀ (a b x y : List Value), sameL a b = true → x.length = a.length → y.length = b.length → (∀ (i : Nat) v v', a[i]? = some v → x[i]? = some v' → RelV σ v v') → (∀ (i : Nat) v v', b[i]? = some v → y[i]? = some v' → RelV σ' v v') → y = x
  | [], [], [], [], _, _, _, _, _ => rfl
  | u :: a, v :: b, x :: xs, y :: ys, h, h1, h2, h3, h4 => by
    simp only [sameL, Bool.and_eq_true] at h
    obtain ⟨e1, hf⟩ := sameD_eq 8 _ _ h.1
    subst e1
    rw [fun_rel hx hf (h3 0 u x rfl rfl) (h4 0 u y rfl rfl), sameL_rel hx a b xs ys h.2 (by simpa using h1) (by simpa using h2) (fun i v v' p q => h3 (i + 1) v v' (by simpa using p) (by simpa using q)) fun i v v' p q => h4 (i + 1) v v' (by simpa using p) (by simpa using q)]
  | [], _ :: _, _, _, h, _, _, _, _ => by cases h
  | _ :: _, [], _, _, h, _, _, _, _ => by cases h
  | [], [], _ :: _, _, _, h, _, _, _ => by simp at h
  | [], [], [], _ :: _, _, _, h, _, _ => by simp at h
  | _ :: _, _ :: _, [], _, _, h, _, _, _ => by simp at h
  | _ :: _, _ :: _, _ :: _, [], _, _, h, _, _ => by simp at h
theorem sameE_rel {σ' : Ren} (hx : Ext σ σ') {u v x y : Value} (h : sameE u v = true) (hu : RelV σ u x) (hv : RelV σ' v y) : y = x := by
  unfold sameE at h
  split at h
  · split at h
    · cases hu with
      | agg s1 r1 =>
        cases hv with
        | agg s2 r2 =>
          rename_i a z b c1 c2
          have := sameL_rel hx a.toList b.toList c1.toList c2.toList h (by rw [Array.length_toList, Array.length_toList]; exact s1.symm) (by rw [Array.length_toList, Array.length_toList]; exact s2.symm) (fun i v v' p q => r1 i v v' (by simpa using p) (by simpa using q)) fun i v v' p q => r2 i v v' (by simpa using p) (by simpa using q)
          rw [Array.ext' this]
    · cases h
  · obtain ⟨e1, hf⟩ := sameD_eq 8 _ _ h
    subst e1
    exact fun_rel hx hf hu hv

theorem sameEnts_eq {σ' : Ren} (hx : Ext σ σ') : ∀ (a b : List MapEntry) (a' b' : List MapEntry), sameEnts a b = true → a'.length = a.length → b'.length = b.length →
    (∀ (i : Nat) (x x' : MapEntry), a[i]? = some x → a'[i]? = some x' → x'.born = x.born ∧ x'.key = x.key ∧ RelV σ x.val x'.val) → (∀ (i : Nat) (x x' : MapEntry), b[i]? = some x → b'[i]? = some x' → x'.born = x.born ∧ x'.key = x.key ∧ RelV σ' x.val x'.val) → b' = a'
  | [], [], [], [], _, _, _, _, _ => rfl
  | x :: a, y :: b, x' :: a', y' :: b', h, h1, h2, h3, h4 => by
    simp only [sameEnts, Bool.and_eq_true] at h
    obtain ⟨⟨⟨g1, g2⟩, g3⟩, g4⟩ := h
    obtain ⟨p1, p2, p3⟩ := h3 0 x x' rfl rfl
    obtain ⟨q1, q2, q3⟩ := h4 0 y y' rfl rfl
    obtain ⟨e1, _⟩ := sameD_eq 8 _ _ g1
    have e3 := Nat.eq_of_beq_eq_true g3
    have e4 := sameE_rel hx g2 p3 q3
    have : y' = x' := by
      obtain ⟨k1, v1, n1⟩ := x'
      obtain ⟨k2, v2, n2⟩ := y'
      simp only at p1 p2 q1 q2 e4
      rw [q2, q1, e4, p2, p1, e1, e3]
    rw [this, sameEnts_eq hx a b a' b' g4 (by simpa using h1) (by simpa using h2) (fun i u u' hu hu' => h3 (i + 1) u u' (by simpa using hu) (by simpa using hu')) fun i u u' hu hu' => h4 (i + 1) u u' (by simpa using hu) (by simpa using hu')]
  | [], _ :: _, _, _, h, _, _, _, _ => by cases h
  | _ :: _, [], _, _, h, _, _, _, _ => by cases h
  | [], [], _ :: _, _, _, h, _, _, _ => by simp at h
  | [], [], [], _ :: _, _, _, h, _, _ => by simp at h
  | _ :: _, _ :: _, [], _, _, h, _, _, _ => by simp at h
  | _ :: _, _ :: _, _ :: _, [], _, _, h, _, _ => by simp at h

theorem leaves_of_same {ops : Array Oper} {j : Nat} {m m' : AM} {w w' : World} {σ0 σ' : Ren} (h0 : Ext σ0 σ) (h : WR W σ m w) (hx : Ext σ σ') {W' : Ref} (h' : WR W' σ' m' w') : ∀ (rd : Seen), sameSeen ops j m m' rd = true → Leaves ops σ0 rd j w w' := by
  intro rd
  induction rd with
  | nil => intro _ r hr; cases hr
  | cons q rd ih =>
    obtain ⟨i, b, o, k⟩ := q
    intro hs r hr
    simp only [sameSeen, Bool.and_eq_true] at hs
    rcases List.mem_cons.1 hr with rfl | hr
    · intro hun e he
      simp only at hun he ⊢
      have hsa : sameAt m m' b o k = true := by simpa [hun] using hs.1
      refine ⟨fun q hq => ?_, fun hk => ?_⟩
      rotate_left
      · subst hk
        have hsm : sameMap m m' b = true := hsa
        unfold sameMap at hsm
        split at hsm
        · rename_i es c es' c' g1 g2
          simp only [Bool.and_eq_true] at hsm
          obtain ⟨e1, o1, p1, p2, p3⟩ := h.obj _ _ g1
          obtain ⟨e2, o2, q1, q2, q3⟩ := h'.obj _ _ g2
          have he1 := h0.ent _ _ he
          rw [he1] at p1; injection p1 with p1; subst p1
          rw [hx.ent _ _ he1] at q1; injection q1 with q1; subst q1
          cases p3 with
          | map ck s1 r1 =>
            cases q3 with
            | map ck' s2 r2 =>
              rename_i es1 es2
              have := sameEnts_eq hx es.toList es'.toList es1.toList es2.toList hsm.1 (by simpa using s1.symm) (by simpa using s2.symm)
                (fun i x x' a a' => by obtain ⟨z1, _, z3, z4⟩ := r1 i x x' (by simpa using a) (by simpa using a'); exact ⟨z1, z3, z4⟩)
                (fun i x x' a a' => by obtain ⟨z1, _, z3, z4⟩ := r2 i x x' (by simpa using a) (by simpa using a'); exact ⟨z1, z3, z4⟩)
              have he2 : es2 = es1 := Array.ext' this
              rw [q2, p2, he2, Nat.eq_of_beq_eq_true hsm.2]
        · cases hsm
      have hsr : sameRange m m' b o k = true := by
        cases k with
        | zero => omega
        | succ k => exact hsa
      obtain ⟨u, v, hu, hv, hsd⟩ := sameRange_at k q hsr hq
      obtain ⟨rfl, hf⟩ := sameD_eq 8 u v hsd
      obtain ⟨x, g1, g2⟩ := h.cell (a := ⟨b, o + q, none⟩) ⟨e, h0.ent _ _ he, rfl, rfl⟩ hu
      obtain ⟨y, g3, g4⟩ := h'.cell (a := ⟨b, o + q, none⟩) ⟨e, hx.ent _ _ (h0.ent _ _ he), rfl, rfl⟩ hv
      simp only at g1 g3
      rw [g3, g1, fun_rel hx hf g2 g4]
    · exact ih hs.2 r hr
end
end Go.Proofs.Ytfghccppoilfhaa
