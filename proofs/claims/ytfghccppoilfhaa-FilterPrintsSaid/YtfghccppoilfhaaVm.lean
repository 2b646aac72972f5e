/-
  Calls from a state: by a contract by value; by going into the body. Conditions: the table of types says what the program's says; functions are entered; plans are ones.
-/
import Derived.Test.YtfghccppoilfhaaVl
namespace Go.Proofs.Ytfghccppoilfhaa.V
open Go.RowKit

def flatD : Nat → D → Bool
  | 0, _ => false
  | _ + 1, .v _ => true
  | k + 1, .agg l => l.all (flatD k)
  | k + 1, .tup l => l.all (flatD k)
  | _ + 1, _ => false

theorem flat_rep {C C' : Ctx} : ∀ (k : Nat) (d : D) (v : Value), flatD k d = true → Rep C d v → Rep C' d v := by
  intro k
  induction k with
  | zero => intro d v h; cases h
  | succ k ih =>
    intro d v h hr
    cases hr with
    | v => exact .v
    | agg hs hh => exact .agg hs fun j d u a b => ih d u (all_at (by simpa [flatD] using h) a) (hh j d u a b)
    | tup hs hh => exact .tup hs fun j d u a b => ih d u (all_at (by simpa [flatD] using h) a) (hh j d u a b)
    | _ => simp [flatD] at h

section
variable {P : Program} {tt : TT} {pl : Plans} {E : Env} {s : St} {σ : Nat → Nat} {τ : Nat → Value} {a : Act} {w : World} {K : D → St → Prop} {f : FuncId} {args : List D}

theorem below_le (hs : HR E s.H s.nx σ τ w) {w' : World} (hb : Below w.heap.size w w') : (ctxOf E s.H s.nx σ τ w).Le (ctxOf E s.H s.nx σ τ w') :=
  ⟨fun b o hk hc => (hb.block b hk.2.1).trans hc, fun b hk => ⟨hk.1, Nat.lt_of_lt_of_le hk.2.1 hb.size, hk.2.2⟩, fun _ _ _ h => h, fun _ _ h => h, fun _ _ _ h => h⟩

theorem Kept.below {w w' : World} (h : Kept E w) (hb : Under w.heap.size w w') : Kept E w' :=
  ⟨hb.os.trans h.os, hb.tape.trans h.tape, hb.output.trans h.output, Nat.le_trans h.size hb.size, fun k hk hn => (hb.block k (Nat.lt_of_lt_of_le hk h.size)).trans (h.block k hk hn), Nat.le_trans h.drawn hb.drawn⟩

theorem own_below {w w' : World} {base e size n : Nat} {v : Value} {xs : List Value} (h : w.ownsRow base e size v n xs) (hb : Below w.heap.size w w') : w'.ownsRow base e size v n xs := by
  refine ⟨h.1, ?_⟩
  rcases h.2 with h2 | ⟨g, cap, cur, hv, hbase, hg, hr⟩
  · exact .inl h2
  · exact .inr ⟨g, cap, cur, hv, hbase, (hb.block g (Array.getElem?_eq_some_iff.1 hg).1).trans hg, hr⟩

theorem below_state (hs : SR E s σ τ a w) {w' : World} (hb : Under w.heap.size w w') : SR E s σ τ a w' := by
  have hle := below_le hs.heap hb.toBelow
  refine ⟨⟨hs.heap.kept.below hb, hs.heap.few, fun id el l h => ?_, fun id α el e enc L h => ?_, hs.heap.apart, hs.heap.below, hs.heap.slices, fun id o h => ⟨fun k hk => ⟨((hs.heap.obj id o h).1 k hk).1, Nat.lt_of_lt_of_le ((hs.heap.obj id o h).1 k hk).2 hb.size⟩, OA.at_mono (hs.heap.obj id o h).2 (fun k hk => hb.block k ((hs.heap.obj id o h).1 k hk).2) hb.size hle.still⟩⟩, hs.defers, hs.size, fun i d h => (hs.slots i d h).mono hle, hs.ghost_le rfl hle, hs.room⟩
  · obtain ⟨h1, c, h2, h3, h4⟩ := hs.heap.cells id el l h
    exact ⟨h1, c, (hb.block _ (Array.getElem?_eq_some_iff.1 h2).1).trans h2, h3, fun j d u hd hu => (h4 j d u hd hu).mono hle⟩
  · obtain ⟨h1, xs, h2, h3, h4⟩ := hs.heap.grow id α el e enc L h
    exact ⟨h1, xs, own_below h2 hb.toBelow, h3, fun i x j d u hx hd hu => (h4 i x j d u hx hd hu).mono hle.still⟩

theorem CallVC.pure {g : Bool} {Q : D → Prop} (hf : Fn P f args Q) (hcut : args.all (cutOk 6 0) = true) (h : ∀ d, Q d → K d s) : CallVC P g f args s K := by
  refine ⟨hf.1, fun E σ τ a w args' hs hr => ?_⟩
  have hr' : reps (baseCtx w (ctxOf E s.H s.nx σ τ w).ok) args args' := ⟨hr.1, fun j d u hd hu => (cut_rep 6 d _ u (all_at hcut hd) (hr.2 j d u hd hu)).mono ⟨fun _ _ _ h => h, fun _ h => h, fun _ _ _ h => absurd h.1 (Nat.not_lt_zero _), fun _ _ h => absurd h.1 (Nat.not_lt_zero _), fun _ _ _ h => absurd h.1 (Nat.not_lt_zero _)⟩⟩
  refine (hf.2 w _ args' (fun b hb => hb.2.1) hr').mono fun e w' hh => ?_
  obtain ⟨d, v, h1, rfl, h3, h4⟩ := hh
  refine ⟨d, s, σ, τ, v, h d h1, rfl, below_state hs h3, h4.mono ⟨fun _ _ _ h => h, fun b hb => ?_, fun _ _ _ h => h.elim, fun _ _ h => h.elim, fun _ _ _ h => h.elim⟩, fun _ => h3.toBelow⟩
  rcases hb with hb | ⟨hb1, hb2⟩
  · exact ⟨hb.1, Nat.lt_of_lt_of_le hb.2.1 h3.size, hb.2.2⟩
  · exact ⟨.inr (.inr (Nat.le_trans hs.heap.kept.size hb1)), hb2, fun id ho => absurd (owned_lt hs.heap ho) (by omega)⟩

theorem CallVC.snap {g : Bool} {Q : D → Prop} (hf : Fn P f (args.map (snapD 6 s.H)) Q) (h : ∀ d, Q d → flatD 4 d = true ∧ K d s) : CallVC P g f args s K := by
  refine ⟨hf.1, fun E σ τ a w args' hs hr => ?_⟩
  have hr' : reps (baseCtx w fun b => ((E.B b ∨ E.K b) ∨ E.w.heap.size ≤ b) ∧ b < w.heap.size) (args.map (snapD 6 s.H)) args' := by
    refine ⟨by simp [hr.1], fun j d u hd hu => ?_⟩
    rw [List.getElem?_map] at hd
    cases hq : args[j]? with
    | none => rw [hq] at hd; cases hd
    | some x =>
      rw [hq] at hd
      simp only [Option.map_some, Option.some.injEq] at hd
      subst hd
      exact snap_rep hs.heap 6 x u (hr.2 j x u hq hu)
  refine (hf.2 w _ args' (fun b hb => hb.2) hr').mono fun e w' hh => ?_
  obtain ⟨d, v, h1, rfl, h3, h4⟩ := hh
  exact ⟨d, s, σ, τ, v, (h d h1).2, rfl, below_state hs h3, flat_rep 4 d v (h d h1).1 h4, fun _ => h3.toBelow⟩

theorem upto_mem : ∀ (n k i : Nat), i ∈ upto n k ↔ k ≤ i ∧ i < k + n
  | 0, k, i => by simp [upto]
  | n + 1, k, i => by
    simp only [upto, List.mem_cons, upto_mem n (k + 1) i]
    omega

theorem CallVC.inline (htt : ttOk P tt) (hb : entersAll P = true) (hm : P.follows .mixedOrders = true) {fn : Func} {c : Code} (hfn : P.funcs[f]? = some fn) (hc : fn.body = some c) (hok : codeOk pl fn.ntmps c = true) (hn : args.length ≤ fn.ntmps)
    (h : wpc P tt pl c ⟨enumD args 0, s.H, s.nx, (upto s.nx 0, s.nx)⟩ fun e s' => endK e (resK tt s' fn.results.toList fun l => seeD (oneD l) fun d => K d ⟨s.F, s'.H, s'.nx, s.G⟩)) : CallVC P false f args s K := by
  refine ⟨⟨fn, hfn, by rw [hc]; rfl⟩, fun E σ τ a w args' hs hr => ?_⟩
  let X' : List Nat × Nat → D → Value → Prop := fun G d v => E.X G d v ∨ (G = (upto s.nx 0, s.nx) ∧ (d = .junk ∨ ∃ i, lget s.F i = some d ∧ v = a.tmps.getD i undef))
  let E' : Env := ⟨E.w, E.B, E.K, fn.ntmps, X'⟩
  have hheap : HR E' s.H s.nx σ τ w := ⟨⟨hs.heap.kept.os, hs.heap.kept.tape, hs.heap.kept.output, hs.heap.kept.size, hs.heap.kept.block, hs.heap.kept.drawn⟩, hs.heap.few, hs.heap.cells, hs.heap.grow, hs.heap.apart, hs.heap.below, hs.heap.slices, hs.heap.obj⟩
  have hlen : args'.length ≤ fn.ntmps := by rw [hr.1]; exact hn
  have hs' : SR E' ⟨enumD args 0, s.H, s.nx, (upto s.nx 0, s.nx)⟩ σ τ { tmps := args'.toArray ++ Array.replicate (fn.ntmps - args'.toArray.size) undef, defers := [] } w := by
    refine ⟨hheap, rfl, by simp [E']; omega, fun i d hd => enter_slots hr fn.ntmps i d hd, fun G d v hx => ?_, Nat.le_refl _⟩
    rcases hx with hx | ⟨rfl, rfl | ⟨i, hi, rfl⟩⟩
    · obtain ⟨g1, g2, g3⟩ := hs.ghost G d v hx
      refine ⟨fun id h1 h2 => ?_, Nat.le_trans g2 hs.room, g3⟩
      have h3 := (g1 id h1 h2).1
      have h4 : id < s.nx := Nat.lt_of_lt_of_le h3 hs.room
      exact ⟨h4, (upto_mem _ _ _).2 ⟨Nat.zero_le _, by omega⟩⟩
    · exact ⟨fun id h1 h2 => ⟨h1, h2⟩, Nat.le_refl _, .junk⟩
    · refine ⟨fun id h1 h2 => ⟨h1, h2⟩, Nat.le_refl _, (hs.slots i d hi).mono ⟨fun _ _ _ h => h, fun _ h => h, fun id off v hv => ⟨hv.1, hv⟩, fun id v hv => ⟨⟨hv.1, (upto_mem _ _ _).2 ⟨Nat.zero_le _, by have := hv.1; omega⟩⟩, hv⟩, fun id off v hv => ⟨⟨hv.1, (upto_mem _ _ _).2 ⟨Nat.zero_le _, by have := hv.1; omega⟩⟩, hv⟩⟩⟩
  refine calls_of_wp hfn hc (wp_mono (wpc_sound (E := E') htt hb hm c hok _ _ _ _ _ w h hs') fun e a1 w1 hh => ?_)
  obtain ⟨x, s1, σ1, τ1, rfl, h1, h2⟩ := hh
  have fin : resK tt s1 fn.results.toList (fun l => seeD (oneD l) fun d => K d ⟨s.F, s1.H, s1.nx, s.G⟩) →
      a1.defers = [] ∧ ∃ v, (results fn a1.tmps).run P w1 = .ok v w1 ∧ ∃ d s' σ' τ' u, K d s' ∧ Ending.returned v = .returned u ∧ SR E s' σ' τ' a w1 ∧ Rep (ctxOf E s'.H s'.nx σ' τ' w1) d u ∧ (false = true → Below w.heap.size w w1) := by
    intro hres
    obtain ⟨l, vs, h3, h4, h5⟩ := resK_run htt h2 _ _ hres
    rw [seeD_eq] at h3
    refine ⟨h2.defers, _, results_at h5, _, _, σ1, τ1, _, h3, rfl, ⟨⟨⟨h2.heap.kept.os, h2.heap.kept.tape, h2.heap.kept.output, h2.heap.kept.size, h2.heap.kept.block, h2.heap.kept.drawn⟩, h2.heap.few, h2.heap.cells, h2.heap.grow, h2.heap.apart, h2.heap.below, h2.heap.slices, h2.heap.obj⟩, hs.defers, hs.size, fun i d hd => ?_, fun G d v hx => ?_, ?_⟩, oneD_rep h4, fun h => by cases h⟩
    · exact (h2.ghost _ _ _ (.inr ⟨rfl, .inr ⟨i, hd, rfl⟩⟩)).2.2.mono (Ctx.only_le _ _)
    · obtain ⟨g1, g2, _⟩ := hs.ghost G d v hx
      exact ⟨g1, g2, (h2.ghost G d v (.inl hx)).2.2⟩
    · show s.G.2 ≤ s1.nx
      have hg := (h2.ghost (upto s.nx 0, s.nx) .junk undef (.inr ⟨rfl, .inl rfl⟩)).2.1
      exact Nat.le_trans hs.room (Nat.le_trans hg h2.room)
  cases x with
  | normal => exact fin h1
  | ret => exact fin h1
  | exit i => exact h1.elim
end
end Go.Proofs.Ytfghccppoilfhaa.V
