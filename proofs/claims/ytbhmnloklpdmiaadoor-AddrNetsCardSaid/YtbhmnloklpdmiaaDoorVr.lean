/-
  Contracts that only look: nothing that was there turns, the answer lies in new memory. Conditions: the table of types says what the program's says; functions are entered; plans are ones.
-/
import Derived.Test.YtbhmnloklpdmiaaDoorVq
namespace Go.Proofs.YtbhmnloklpdmiaaDoor.V
open Go.RowKit

/-- A contract by value whose answer lies in new memory alone. -/
def FnN (P : Program) (f : FuncId) (args : List D) (Q : D → Prop) : Prop :=
  hasBody P f ∧ ∀ (w : World) (B : Nat → Prop) (args' : List Value), (∀ b, B b → b < w.heap.size) → reps (baseCtx w B) args args' →
    Calls P f args'.toArray w fun e w' => ∃ d v, Q d ∧ e = .returned v ∧ Under w.heap.size w w' ∧ Rep (baseCtx w' fun b => w.heap.size ≤ b ∧ b < w'.heap.size) d v

theorem FnN.mono {P : Program} {f : FuncId} {args : List D} {Q Q' : D → Prop} (h : FnN P f args Q) (hq : ∀ d, Q d → Q' d) : FnN P f args Q' :=
  ⟨h.1, fun w B args' hB hr => (h.2 w B args' hB hr).mono fun _ _ ⟨d, v, h1, h2⟩ => ⟨d, v, hq d h1, h2⟩⟩
theorem FnN.exact {P : Program} {f : FuncId} {args : List D} {d0 : D} (h : FnN P f args fun d => DLe d d0) : FnN P f args fun d => d = d0 :=
  ⟨h.1, fun w B args' hB hr => (h.2 w B args' hB hr).mono fun _ _ ⟨_, v, h1, h2, h3, h4⟩ => ⟨d0, v, rfl, h2, h3, h1 _ _ h4⟩⟩
theorem FnN.fn {P : Program} {f : FuncId} {args : List D} {Q : D → Prop} (h : FnN P f args Q) : Fn P f args Q :=
  ⟨h.1, fun w B args' hB hr => (h.2 w B args' hB hr).mono fun _ _ ⟨d, v, h1, h2, h3, h4⟩ => ⟨d, v, h1, h2, h3, h4.mono ⟨fun _ _ _ h => h, fun _ hb => .inr hb, fun _ _ _ h => h, fun _ _ h => h, fun _ _ _ h => h⟩⟩⟩
theorem FnN.of_flat {P : Program} {f : FuncId} {args : List D} {Q : D → Prop} (h : Fn P f args Q) (hq : ∀ d, Q d → flatD 4 d = true) : FnN P f args Q :=
  ⟨h.1, fun w B args' hB hr => (h.2 w B args' hB hr).mono fun _ _ ⟨d, v, h1, h2, h3, h4⟩ => ⟨d, v, h1, h2, h3, flat_rep 4 d v (hq d h1) h4⟩⟩

/-- What is answered: a row of one's own, or what bears no place. -/
def newAns (s : St) (d : D) (Q : D → Prop) : Prop := match d with
  | .grow id => match lget s.H id with
    | some (.grow α _ e enc L) => (∀ x, (enc x).all (flatD 1) = true) ∧ Q (.rows α e enc L)
    | _ => False
  | d => flatD 4 d = true ∧ Q d

section
variable {P : Program} {tt : TT} {pl : Plans} {E : Env} {s : St} {σ : Nat → Nat} {τ : Nat → Value} {a : Act} {w : World} {K : D → St → Prop} {f : FuncId} {args : List D}

theorem own_rows (hs : HR E s.H s.nx σ τ w) {id : Nat} {α : Type} {el e : Nat} {enc : α → List D} {L : List α} (h : lget s.H id = some (.grow α el e enc L)) (hfl : ∀ x, (enc x).all (flatD 1) = true) (B : Nat → Prop) (hB : ∀ b, E.mine b → b < w.heap.size → B b) :
    Rep (baseCtx w B) (.rows α e enc L) (τ id) := by
  obtain ⟨h1, xs, ⟨hxl, hown⟩, hlen, hrep⟩ := hs.grow id α el e enc L h
  rcases hown with ⟨hv, hn⟩ | ⟨g, cap, cur, hv, _, hg, hcap, hmax, hcs, htk⟩
  · have : L = [] := List.eq_nil_of_length_eq_zero hn
    subst this
    rw [hv]
    exact DLe.nil e enc _ _ .v
  · rw [hv]
    have hgl : g < w.heap.size := (Array.getElem?_eq_some_iff.1 hg).1
    have hbound : ∀ (i j : Nat), i < L.length → j < e → i * e + j < L.length * e := fun i j hi hj => by
      have := Nat.mul_le_mul_right e (show i + 1 ≤ L.length from hi)
      rw [Nat.succ_mul] at this
      omega
    have hcl : L.length * e ≤ cur.size := by rw [hcs]; exact Nat.mul_le_mul_right e hcap
    have hxj : ∀ (j : Nat), j < L.length * e → xs[j]? = cur[j]? := fun j hj => by
      have h7 : cur.toList[j]? = xs[j]? := by rw [← htk, List.getElem?_take, if_pos hj]
      rw [← h7, Array.getElem?_toList]
    refine Rep.rows (C := baseCtx w B) (α := α) (e := e) (enc := enc) (L := L) g 0 (fun i j => (cur[i * e + j]?).getD undef) hcap (fun _ => ⟨rfl, hB g (h1 g (by rw [hv]; rfl)) hgl⟩) hlen (fun i x j d hx hd => ?_) (fun i x j d hx hd => ?_)
    all_goals
      have hi : i < L.length := (List.getElem?_eq_some_iff.1 hx).1
      have hj : j < e := by have := (List.getElem?_eq_some_iff.1 hd).1; rw [hlen i x hx] at this; exact this
      have hb := hbound i j hi hj
      obtain ⟨u, hcj⟩ : ∃ u, cur[i * e + j]? = some u := ⟨_, Array.getElem?_eq_getElem (by omega)⟩
    · show w.cell? ⟨g, 0 + i * e + j, none⟩ = some ((cur[i * e + j]?).getD undef)
      rw [hcj, Nat.zero_add]
      unfold World.cell?
      simp [hg, hcj]
    · rw [hcj]
      exact flat_rep 1 d _ (all_at (hfl x) hd) (hrep i x j d u hx hd (by rw [hxj _ hb, hcj]))

/-- A contract that only looks, from the body. -/
theorem fnN_of_wpc (htt : ttOk P tt) (hb : entersAll P = true) (hm : P.follows .mixedOrders = true) {fn : Func} {c : Code} (hfn : P.funcs[f]? = some fn) (hc : fn.body = some c) (hok : codeOk pl fn.ntmps c = true) {Q : D → Prop}
    (hn : args.length ≤ fn.ntmps) (h : wpc P tt pl c ⟨enumD args 0, [], 0, ([], 0)⟩ fun e s => endK e (resK tt s fn.results.toList fun l => seeD (oneD l) fun d => newAns s d Q)) : FnN P f args Q := by
  refine ⟨⟨fn, hfn, by rw [hc]; rfl⟩, fun w B args' hB hr => ?_⟩
  have hr0 := hr
  let E : Env := ⟨w, B, fun _ => False, fn.ntmps, fun _ _ _ => False⟩
  have hle : (baseCtx w B).Le (ctxOf E [] 0 (fun _ => 0) (fun _ => .slice none 0 0) w) :=
    ⟨fun _ _ _ h => h, (fun b hb => ⟨.inl hb, hB b hb, fun id ho => by rcases ho with ⟨_, _, h, _⟩ | ⟨_, _, _, _, _, h, _⟩ | ⟨_, h, _⟩ <;> cases h⟩), fun _ _ _ h => h.elim, fun _ _ h => h.elim, fun _ _ _ h => h.elim⟩
  have hlen : args'.length ≤ fn.ntmps := by rw [hr.1]; exact hn
  have hs : SR E ⟨enumD args 0, [], 0, ([], 0)⟩ (fun _ => 0) (fun _ => .slice none 0 0) { tmps := args'.toArray ++ Array.replicate (fn.ntmps - args'.toArray.size) undef, defers := [] } w :=
    ⟨⟨⟨rfl, rfl, rfl, Nat.le_refl _, fun _ _ _ => rfl, Nat.le_refl _⟩, fun b hb => ⟨fun h => h, hB b hb⟩, (fun id el l h => by cases h), (fun id α el e enc L h => by cases h), (fun i j b h => by rcases h with ⟨_, _, h, _⟩ | ⟨_, _, _, _, _, h, _⟩ | ⟨_, h, _⟩ <;> cases h), (fun id o h => by cases h), fun _ => ⟨_, _, _, rfl⟩, fun id o h => by cases h⟩,
      rfl, by simp [E]; omega, fun i d hd => (enter_slots hr0 fn.ntmps i d hd).mono hle, fun _ _ _ h => h.elim, Nat.le_refl _⟩
  refine calls_of_wp hfn hc (wp_mono (wpc_sound (E := E) htt hb hm c hok _ _ _ _ _ w h hs) fun e a1 w1 hh => ?_)
  obtain ⟨x, s1, σ1, τ1, rfl, h1, h2⟩ := hh
  have fin : resK tt s1 fn.results.toList (fun l => seeD (oneD l) fun d => newAns s1 d Q) → a1.defers = [] ∧ ∃ v, (results fn a1.tmps).run P w1 = .ok v w1 ∧ ∃ d u, Q d ∧ Ending.returned v = .returned u ∧ Under w.heap.size w w1 ∧ Rep (baseCtx w1 fun b => w.heap.size ≤ b ∧ b < w1.heap.size) d u := by
    intro hres
    obtain ⟨l, vs, h3, h4, h5⟩ := resK_run htt h2 _ _ hres
    rw [seeD_eq] at h3
    have hbel : Under w.heap.size w w1 := ⟨⟨h2.heap.kept.os, h2.heap.kept.tape, h2.heap.kept.output, h2.heap.kept.size, fun k hk => h2.heap.kept.block k hk (fun h => h)⟩, h2.heap.kept.drawn⟩
    have hone := oneD_rep h4
    generalize oneD l = d at *
    unfold newAns at h3
    split at h3
    · rename_i id
      split at h3
      · rename_i α el e enc L hg
        obtain ⟨hfl, hq⟩ := h3
        have hv : oneV vs = τ1 id := by
          cases hone with
          | grow hh => exact hh.2
        refine ⟨h2.defers, _, results_at h5, _, _, hq, rfl, hbel, ?_⟩
        rw [hv]
        exact own_rows (s := s1) h2.heap hg hfl _ fun b hb hbw => ⟨hb.elim (fun h => h.elim) (fun h => h), hbw⟩
      · exact h3.elim
    · exact ⟨h2.defers, _, results_at h5, _, _, h3.2, rfl, hbel, flat_rep 4 _ _ h3.1 hone⟩
  cases x with
  | normal => exact fin h1
  | ret => exact fin h1
  | exit i => exact h1.elim

/-- A call by a contract that only looks; one's own places are looked at as they are. -/
theorem CallVC.look {g : Bool} {Q : D → Prop} {args0 : List D} (hf : FnN P f args0 Q) (he : args.map (snapD 6 s.H) = args0) (h : ∀ d, Q d → K d s) : CallVC P g f args s K := by
  subst he
  refine ⟨hf.1, fun E σ τ a w args' hs hr => ?_⟩
  have hr' : reps (baseCtx w fun b => ((E.B b ∨ E.K b) ∨ E.w.heap.size ≤ b) ∧ b < w.heap.size) (args.map (snapD 6 s.H)) args' := by
    refine ⟨by simp [hr.1], fun j d u hd hu => ?_⟩
    rw [List.getElem?_map] at hd
    cases hq : args[j]? with
    | none => rw [hq] at hd; cases hd
    | some x =>
      rw [hq] at hd
      simp only [Option.map_some, Option.some.injEq] at hd
      subst hd
      exact snap_rep hs.heap 6 x u (hr.2 j x u hq hu)
  refine (hf.2 w _ args' (fun b hb => hb.2) hr').mono fun e w' hh => ?_
  obtain ⟨d, v, h1, rfl, h3, h4⟩ := hh
  refine ⟨d, s, σ, τ, v, h d h1, rfl, below_state hs h3, h4.mono ⟨fun _ _ _ h => h, fun b hb => ?_, fun _ _ _ h => h.elim, fun _ _ h => h.elim, fun _ _ _ h => h.elim⟩, fun _ => h3.toBelow⟩
  exact ⟨.inr (.inr (Nat.le_trans hs.heap.kept.size hb.1)), hb.2, fun id ho => absurd (owned_lt hs.heap ho) (by have := hb.1; omega)⟩
end
end Go.Proofs.YtbhmnloklpdmiaaDoor.V
