/-
  The same, part 13: code, calls. Conditions: the types' zero values bear no address; functions are entered; the program's regions draw one order.
-/
import Derived.Test.YtfghccppoilfhaaCeQ
namespace Go.Proofs.Ytfghccppoilfhaa
open Go.RowKit

section
variable {P : Program} {W : Ref} {σ : Ren}

def Ends (W : Ref) (σ : Ren) (n : Nat) (x : AExit) (t : Tr Value) (m : AM) : Exit → Act → World → Prop := fun e a w => e = x.to ∧ ∃ σ', Ext σ σ' ∧ WR W σ' m w ∧ RelT σ' n t a

theorem Ends.ext {σ' : Ren} (hx : Ext σ σ') {n : Nat} {x : AExit} {t : Tr Value} {m : AM} {e : Exit} {a : Act} {w : World} (h : Ends W σ' n x t m e a w) : Ends W σ n x t m e a w :=
  let ⟨h1, σ2, h2, h3, h4⟩ := h; ⟨h1, σ2, hx.trans h2, h3, h4⟩

theorem sameAll_mem {ops : Array Oper} {rd : Seen} : ∀ (l : Snaps), sameAll ops rd l = true → ∀ s ∈ l, sameSeen ops s.1 s.2.1 s.2.2 rd = true
  | [], _, _, h => by cases h
  | (j, m0, m) :: r, h, s, hs => by
    simp only [sameAll, Bool.and_eq_true] at h
    rcases List.mem_cons.1 hs with rfl | hs
    · exact h.1
    · exact sameAll_mem r h.2 s hs

theorem rounds_mono {b : Code} {Q Q' : Exit → Act → World → Prop} (h : ∀ e a w, Q e a w → Q' e a w) : ∀ (k : Nat) (a : Act) (w : World), Code.rounds P b Q k a w → Code.rounds P b Q' k a w
  | 0, _, _, hr => hr
  | k + 1, a, w, hr => by
    rw [rounds_succ] at hr ⊢
    refine wp_mono hr fun e a1 w1 hh => ?_
    cases e with
    | normal => exact rounds_mono h k a1 w1 hh
    | _ => exact h _ _ _ hh

theorem loop_of {c : Code} {Q : Exit → Act → World → Prop} {k : Nat} {a : Act} {w : World} (hl : ∀ b, c = .loop b → Code.rounds P b Q k a w) (hn : (∀ b, c ≠ .loop b) → c.wp P Q a w) :
    c.wp P Q a w ∧ ∀ b, c = .loop b → Code.rounds P b Q k a w := by
  refine ⟨?_, hl⟩
  by_cases h : ∃ b, c = .loop b
  · obtain ⟨b, rfl⟩ := h
    exact wp_loop_rounds k (hl b rfl)
  · exact hn fun b hb => h ⟨b, hb⟩

theorem evalCode_sound (hz : zerosOk P = true) (hc : callsOk P = true) (hm : P.follows .mixedOrders = true) {call : Callee1} {T : (Nat → Value) → Prop} (hcall : CallOk P T call) {n : Nat} :
    ∀ (k : Nat) (c : Code) (t t' : Tr Value) (m m' : AM) (x : AExit) (σ : Ren) (a : Act) (w : World), T σ.env → evalCode P call n k c t m = some (x, t', m') → WR W σ m w → RelT σ n t a →
      c.wp P (Ends W σ n x t' m') a w ∧ ∀ b, c = .loop b → Code.rounds P b (Ends W σ n x t' m') k a w := by
  intro k
  induction k with
  | zero => intro c t t' m m' x σ a w _ h; cases h
  | succ k ih0 =>
    have ih := fun c t t' m m' x σ a w hT h hw ht => (ih0 c t t' m m' x σ a w hT h hw ht).1
    intro c t t' m m' x σ a w hT h hw ht
    refine loop_of ?_ ?_
    · intro b hb
      subst hb
      unfold evalCode at h
      simp only at h
      rw [rounds_succ]
      split at h
      · rename_i t1 m1 h1
        refine wp_mono (ih b t t1 m m1 _ σ a w hT h1 hw ht) fun e a1 w1 hh => ?_
        obtain ⟨rfl, σ1, g1, g2, g3⟩ := hh
        exact rounds_mono (fun _ _ _ hh => hh.ext g1) k a1 w1 ((ih0 (.loop b) t1 t' m1 m' x σ1 a1 w1 (g1.stand hT) h g2 g3).2 b rfl)
      · rename_i hne
        refine wp_mono (ih b t t' m m' x σ a w hT h hw ht) fun e a1 w1 hh => ?_
        have he := hh.1
        cases x with
        | normal => exact absurd h (hne _ _)
        | exit i => subst he; exact hh
        | ret => subst he; exact hh
    intro hnl
    have here : ∀ {y : AExit}, some (y, t, m) = some (x, t', m') → Ends W σ n x t' m' y.to a w := by
      intro y hy
      injection hy with hy; injection hy with h1 h2; injection h2 with h2 h3; subst h1 h2 h3
      exact ⟨rfl, σ, Ext.refl σ, hw, ht⟩
    unfold evalCode at h
    cases c with
    | skip => exact wp_skip (here h)
    | label l => exact wp_label (here h)
    | ret => exact wp_ret (here h)
    | exit id => exact wp_exit (here h)
    | seq p q =>
      simp only at h
      split at h
      · rename_i t1 m1 h1
        refine wp_seq (wp_mono (ih p t t1 m m1 _ σ a w hT h1 hw ht) fun e a1 w1 hh => ?_)
        obtain ⟨rfl, σ1, g1, g2, g3⟩ := hh
        exact wp_mono (ih q t1 t' m1 m' x σ1 a1 w1 (g1.stand hT) h g2 g3) fun _ _ _ hh => hh.ext g1
      · rename_i hne
        refine wp_seq (wp_mono (ih p t t' m m' x σ a w hT h hw ht) fun e a1 w1 hh => ?_)
        have he := hh.1
        cases x with
        | normal => exact absurd h (hne _ _)
        | exit i => subst he; exact hh
        | ret => subst he; exact hh
    | cond y p q =>
      simp only at h
      split at h
      · rename_i hok
        have hv := ht.eval y hok
        split at h
        · rename_i hb
          rw [hb] at hv
          generalize hq : a.eval y = v at hv
          cases hv
          exact wp_cond_true hq (ih p t t' m m' x σ a w hT h hw ht)
        · rename_i hb
          rw [hb] at hv
          generalize hq : a.eval y = v at hv
          cases hv
          exact wp_cond_false hq (ih q t t' m m' x σ a w hT h hw ht)
        · cases h
      · cases h
    | block id b =>
      simp only at h
      split at h
      · rename_i j t1 m1 h1
        refine wp_block (wp_mono (ih b t t1 m m1 _ σ a w hT h1 hw ht) fun e a1 w1 hh => ?_)
        obtain ⟨rfl, hh⟩ := hh
        simp only [AExit.to, Exit.inBlock]
        split at h
        · rename_i hj
          injection h with h; injection h with e1 e2; injection e2 with e2 e3; subst e1 e2 e3
          rw [if_pos hj]; exact ⟨rfl, hh⟩
        · rename_i hj
          injection h with h; injection h with e1 e2; injection e2 with e2 e3; subst e1 e2 e3
          rw [if_neg hj]; exact ⟨rfl, hh⟩
      · rename_i hne
        refine wp_block (wp_mono (ih b t t' m m' x σ a w hT h hw ht) fun e a1 w1 hh => ?_)
        have he := hh.1
        cases x with
        | normal => subst he; exact hh
        | exit i => exact absurd h (hne _ _ _)
        | ret => subst he; exact hh
    | loop b => exact absurd rfl (hnl b)
    | scope b =>
      refine wp_scope_straight (wp_mono (ih b t t' m m' x σ a w hT h hw ht) fun e a1 w1 hh => ?_)
      have he := hh.1
      cases x <;> (subst he; exact hh)
    | region id ops draw =>
      cases draw with
      | false =>
        simp only at h
        split at h
        · rename_i t1 m1 h1
          injection h with h; injection h with e1 e2; injection e2 with e2 e3; subst e1 e2 e3
          exact wp_region_list (evalOps_sound hz hc hcall ops.toList t t1 m m1 σ a w hT h1 hw ht fun σ' a' w' g1 g2 g3 => ⟨rfl, σ', g1, g2, g3⟩)
        · cases h
      | true =>
        simp only at h
        split at h
        · rename_i hlex
          split at h
          · rename_i t1 m1 sn rd h1
            split at h
            · rename_i hall
              injection h with h; injection h with e1 e2; injection e2 with e2 e3; subst e1 e2 e3
              obtain ⟨g1, g2, g3, g4⟩ := drawnOk_spec hlex
              refine wp_region_any hm (wpAny_of_J (T := Leaves ops σ rd) _ _ _ _ ?_)
              have hlen := plan_len g2 g3
              have := drawn_J (R := W) hz hc hcall (Region.noSelect_spec g1) (Q := Ends W σ n .normal t1 m1) (fun c a w hh => by cases hh.1) hT hw.drew (RD := rd) (ops.size + (planOf P ops).length) ops.size (planOf P ops) (Array.replicate ops.size false) 0 [] t t1 m m1 sn rd σ a a w.drew
                (Nat.le_refl _) g4 ⟨by simp, fun j => by rw [Nat.zero_testBit]; by_cases hj : j < ops.size <;> simp [Array.getD_eq_getD_getElem?, hj]⟩ h1 (by simpa using hlen) (by simp) (fun x hx => by cases hx) (by simp) (Ext.refl σ) hw.drew ht ⟨rfl, rfl, fun _ _ => rfl⟩ (fun x hx => by cases hx) (sameAll_mem sn hall) (fun r hr => hr) fun σ' a' w' g1 g2 g3 => ⟨rfl, σ', g1, g2, g3⟩
              exact this
            · cases h
          · cases h
        · cases h
    | _ => cases h

def resOf (tmps : Array Value) : ResultVar → Sem Value
  | .tmp t => Pure.pure (tmps.getD t undef)
  | .cell b ty => do Go.loadVar ty (← asAddr (tmps.getD b undef))

theorem aresults_sound {n : Nat} {t : Tr Value} {a : Act} {m : AM} {w : World} (hw : WR W σ m w) (ht : RelT σ n t a) : ∀ (rs : List ResultVar) (l : List Value), aresults P rs t m = some l →
    ∃ l', RelL σ l l' ∧ Sem.run P (rs.mapM (resOf a.tmps)) w = Result.ok l' w := by
  intro rs
  induction rs with
  | nil => intro l h; injection h with h; subst h; exact ⟨[], RelL.nil, by simp⟩
  | cons r rs ih =>
    intro l h
    cases r with
    | tmp i =>
      simp only [aresults] at h
      split at h
      · rename_i l1 h1
        injection h with h; subst h
        obtain ⟨l', g1, g2⟩ := ih l1 h1
        have hv := ht.each i
        refine ⟨a.tmps.getD i undef :: l', ⟨by simp [g1.size], fun j v v' hj hj' => ?_⟩, ?_⟩
        · cases j with
          | zero => simp only [List.getElem?_cons_zero, Option.some.injEq] at hj hj'; subst hj hj'; exact hv
          | succ j => exact g1.each j v v' (by simpa using hj) (by simpa using hj')
        · simp only [List.mapM_cons, resOf, Sem.run_bind, Sem.run_pure, Result.andThen_ok, g2]
      · cases h
    | cell b ty =>
      simp only [aresults] at h
      split at h
      · rename_i p hp
        split at h
        · rename_i v m1 l1 h0 h1
          split at h
          · rename_i htick
            injection h with h; subst h
            obtain ⟨l', g1, g2⟩ := ih l1 h1
            have hv := ht.each b
            rw [hp] at hv
            obtain ⟨p', ep, ha⟩ := hv.addr
            obtain ⟨σ1, v', w1, q1, q2, q3, q4, q5⟩ := Sim.loadVar (P := P) (W := W) ha ty m w v m1 hw h0
            obtain ⟨rfl, rfl⟩ := q5.2 htick
            refine ⟨v' :: l', ⟨by simp [g1.size], fun j v v' hj hj' => ?_⟩, ?_⟩
            · cases j with
              | zero => simp only [List.getElem?_cons_zero, Option.some.injEq] at hj hj'; subst hj hj'; exact q4
              | succ j => exact g1.each j v v' (by simpa using hj) (by simpa using hj')
            · simp only [List.mapM_cons, resOf, ep, asAddr, Sem.run_bind, Sem.run_pure, Result.andThen_ok, q2, g2]
          · cases h
        · cases h
      · cases h

theorem results_run {fn : Func} {tmps l' : Array Value} {w : World} (h : Sem.run P (fn.results.toList.mapM (resOf tmps)) w = Result.ok l'.toList w) : (results fn tmps).run P w = .ok (oneOf l'.toList) w := by
  have e : results fn tmps = (do
      let vs ← fn.results.mapM (resOf tmps)
      Pure.pure (if h : vs.size = 1 then vs[0] else .tuple vs)) := by
    unfold results
    congr 1
  rw [e, Array.mapM_eq_mapM_toList]
  simp only [Sem.run_bind, Sem.run_map, h, Result.andThen_ok, Sem.run_pure]
  congr 1
  obtain ⟨l⟩ := l'
  match l with
  | [] => rfl
  | [x] => rfl
  | x :: y :: r => simp [oneOf]

theorem initT_get : ∀ (l : List Value) (i : Nat) (t : Tr Value) (j : Nat), i + l.length ≤ 1000000 → tget (initT l i t) j = (if i ≤ j ∧ j < i + l.length then l.getD (j - i) undef else tget t j) := by
  intro l
  induction l with
  | nil => intro i t j _; rw [if_neg (by simp only [List.length_nil]; omega)]; rfl
  | cons v l ih =>
    intro i t j h
    simp only [List.length_cons] at h
    rw [initT, ih (i + 1) _ j (by omega)]
    by_cases h1 : i + 1 ≤ j ∧ j < i + 1 + l.length
    · rw [if_pos h1, if_pos (by simp; omega), show j - i = (j - (i + 1)) + 1 by omega]
      try rfl
    · rw [if_neg h1]
      by_cases hj : i = j
      · subst hj
        rw [if_pos (by simp), tget_set_same _ _ _ (by omega)]
        simp
      · rw [if_neg (by simp; omega), tget_set_other _ _ _ _ hj]

theorem initT_rel {args args' : Array Value} {n : Nat} (h : RelVs σ args args') (hn : args.size ≤ n) (hs : n ≤ 1000000) : RelT σ n (initT args.toList 0 .nil) { tmps := args' ++ Array.replicate (n - args'.size) undef, defers := [] } := by
  have hsz := h.size
  refine ⟨rfl, by simp; omega, hs, fun i => ?_⟩
  rw [initT_get _ _ _ _ (by simp; omega)]
  simp only [Nat.zero_le, true_and, Nat.zero_add, Array.length_toList, Nat.sub_zero]
  by_cases hi : i < args.size
  · rw [if_pos hi]
    have e1 : args.toList.getD i undef = args[i] := by simp [hi]
    have e2 : (args' ++ Array.replicate (n - args'.size) undef).getD i undef = args'[i]'(by omega) := by
      rw [Array.getD_eq_getD_getElem?, Array.getElem?_append_left (by omega)]
      simp [show i < args'.size by omega]
    rw [e1]
    show RelV σ _ ((args' ++ Array.replicate (n - args'.size) undef).getD i undef)
    rw [e2]
    exact h.each i _ _ (Array.getElem?_eq_getElem hi) (Array.getElem?_eq_getElem (by omega))
  · rw [if_neg hi]
    have e1 : tget (.nil : Tr Value) i = undef := by unfold tget; rw [Tr.get_nil]
    have e2 : (args' ++ Array.replicate (n - args'.size) undef).getD i undef = undef := by
      rw [Array.getD_eq_getD_getElem?, Array.getElem?_append_right (by omega)]
      rw [Array.getElem?_replicate]
      split <;> rfl
    rw [e1]
    show RelV σ _ ((args' ++ Array.replicate (n - args'.size) undef).getD i undef)
    rw [e2]
    exact undef_rel

theorem oneOf_rel {l l' : List Value} (h : RelL σ l l') : RelV σ (oneOf l) (oneOf l') := by
  have hs := h.size
  match l, l', hs with
  | [], [], _ => exact undef_rel
  | [x], [y], _ => exact h.cons_inv.1
  | x :: x2 :: r, y :: y2 :: r', _ => exact h.toVs.mkTuple

theorem WR.below_of {W : Ref} {m : AM} {w w' : World} (h : WR W σ m w) (hb : V.Under w.heap.size w w') : WR W σ m w' := by
  have hk : ∀ k, k < w.heap.size → w'.heap[k]? = w.heap[k]? := fun k hk => hb.block k hk
  refine ⟨⟨hb.os.trans h.below.os, hb.tape.trans h.below.tape, hb.output.trans h.below.output, Nat.le_trans h.below.size hb.size, fun k hk1 hn => (hk k (Nat.lt_of_lt_of_le hk1 h.below.size)).trans (h.below.block k hk1 hn), Nat.le_trans h.below.drawn hb.drawn⟩, h.pos, fun i e he => ?_, fun i o hi => ?_, h.inj⟩
  · obtain ⟨h1, h2, h3, h4⟩ := h.ent i e he
    exact ⟨h1, h2, h3, Nat.lt_of_lt_of_le h4 hb.size⟩
  · obtain ⟨e, o', h1, h2, h3⟩ := h.obj i o hi
    exact ⟨e, o', h1, (hk _ (h.ent i e h1).2.2.2).trans h2, h3⟩

def OracleOk (P : Program) (T : (Nat → Value) → Prop) (orc : Oracle) : Prop := ∀ f args v, orc f args = some v → ∀ (σ : Ren) (w : World) args', T σ.env → RelVs σ args args' →
  Calls P f args' w fun e w' => ∃ v', e = .returned v' ∧ V.Under w.heap.size w w' ∧ RelV σ v v'

theorem noOracle_ok (P : Program) : OracleOk P (fun _ => True) noOracle := fun _ _ _ h => by cases h

theorem evalAsk_sound (hz : zerosOk P = true) (hc : callsOk P = true) (hm : P.follows .mixedOrders = true) {T : (Nat → Value) → Prop} {orc : Oracle} (ho : OracleOk P T orc) (steps : Nat) : ∀ d, CallOk P T (evalAsk P orc steps d) := by
  intro d
  induction d with
  | zero => intro f args m v m' h; cases h
  | succ d ih =>
    intro f args m v m' h W σ w args' hT hw hargs
    unfold evalAsk at h
    split at h
    · rename_i v0 hv0
      injection h with h; injection h with h1 h2; subst h1 h2
      exact (ho f args _ hv0 σ w args' hT hargs).mono fun e w' hh => by
        obtain ⟨v', rfl, g2, g3⟩ := hh
        exact ⟨σ, v', rfl, Ext.refl σ, hw.below_of g2, g3⟩
    split at h
    · rename_i fn hfn
      split at h
      · rename_i c hcode
        split at h
        · rename_i hq
          obtain ⟨hq1, hq2⟩ := hq
          have ht := initT_rel hargs hq1 hq2
          have fin : ∀ {x : AExit} {t1 : Tr Value} {m1 : AM} {l : List Value}, (x = .normal ∨ x = .ret) → evalCode P (evalAsk P orc steps d) fn.ntmps steps c (initT args.toList 0 .nil) m = some (x, t1, m1) → aresults P fn.results.toList t1 m1 = some l →
              Calls P f args' w fun e w' => ∃ σ' v', e = .returned v' ∧ Ext σ σ' ∧ WR W σ' m1 w' ∧ RelV σ' (oneOf l) v' := by
            intro x t1 m1 l hx h1 h2
            refine calls_of_wp hfn hcode (wp_mono (evalCode_sound hz hc hm ih steps c _ t1 m m1 x σ _ w hT h1 hw ht).1 fun e a w1 hh => ?_)
            obtain ⟨rfl, σ1, g1, g2, g3⟩ := hh
            obtain ⟨l', q1, q2⟩ := aresults_sound g2 g3 _ l h2
            have q3 := results_run (P := P) (fn := fn) (tmps := a.tmps) (l' := l'.toArray) (w := w1) q2
            have hb : a.defers = [] ∧ ∃ v, (results fn a.tmps).run P w1 = .ok v w1 ∧ ∃ σ' v', Ending.returned v = .returned v' ∧ Ext σ σ' ∧ WR W σ' m1 w1 ∧ RelV σ' (oneOf l) v' :=
              ⟨g3.defers, _, q3, σ1, _, rfl, g1, g2, oneOf_rel q1⟩
            rcases hx with rfl | rfl <;> exact hb
          split at h
          · rename_i t1 m1 h1
            split at h
            · rename_i l h2
              injection h with h; injection h with e1 e2; subst e1 e2
              exact fin (.inl rfl) h1 h2
            · cases h
          · rename_i t1 m1 h1
            split at h
            · rename_i l h2
              injection h with h; injection h with e1 e2; subst e1 e2
              exact fin (.inr rfl) h1 h2
            · cases h
          · cases h
        · cases h
      · cases h
    · cases h

def am0 : AM := ⟨1, .nil, 0⟩

theorem am0_rel (env : Nat → Value) (one : ∀ i, (env i).oneCell' = true) (w : World) : WR ⟨w, fun _ => False⟩ ⟨fun _ => none, env, one⟩ am0 w :=
  ⟨⟨rfl, rfl, rfl, Nat.le_refl _, fun _ _ _ => rfl, Nat.le_refl _⟩, Nat.one_pos, fun i e h => (by cases h), fun i o h => (by unfold AM.get am0 at h; rw [Tr.get_nil] at h; cases h), fun i j o o' e e' h => (by unfold AM.get am0 at h; rw [Tr.get_nil] at h; cases h)⟩

def asksTrue (P : Program) (orc : Oracle) (steps d : Nat) (f : FuncId) (args : Array Value) : Bool := match evalAsk P orc steps d f args am0 with
  | some (.bool b, _) => b
  | _ => false

theorem asks_true (hz : zerosOk P = true) (hc : callsOk P = true) (hm : P.follows .mixedOrders = true) {T : (Nat → Value) → Prop} {orc : Oracle} (ho : OracleOk P T orc) (steps d : Nat) (f : FuncId) {args args' : Array Value} (h : asksTrue P orc steps d f args = true) (w : World)
    (env : Nat → Value) (one : ∀ i, (env i).oneCell' = true) (hT : T env) (hargs : RelVs ⟨fun _ => none, env, one⟩ args args') : Calls P f args' w fun e w' => e = .returned (.bool true) ∧ V.Under w.heap.size w w' := by
  unfold asksTrue at h
  split at h
  · rename_i b m' hv
    refine (evalAsk_sound hz hc hm ho steps d f args am0 _ m' hv ⟨w, fun _ => False⟩ ⟨fun _ => none, env, one⟩ w args' hT (am0_rel env one w) hargs).mono fun e w' hh => ?_
    obtain ⟨σ', v', rfl, _, g2, g3⟩ := hh
    cases g3
    exact ⟨by rw [h], ⟨⟨g2.below.os, g2.below.tape, g2.below.output, g2.below.size, fun k hk => g2.below.block k hk (fun h => h)⟩, g2.below.drawn⟩⟩
  · cases h
end
end Go.Proofs.Ytfghccppoilfhaa
