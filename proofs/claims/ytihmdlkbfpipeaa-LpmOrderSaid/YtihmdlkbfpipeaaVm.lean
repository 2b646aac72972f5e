/-
  Calls from a state: by a contract by value; by going into the body. Conditions: the table of types says what the program's says; functions are entered; plans are ones.
-/
import Derived.Test.YtihmdlkbfpipeaaVl
namespace Go.Proofs.Ytihmdlkbfpipeaa.V
open Go.RowKit

section
variable {P : Program} {tt : TT} {pl : Plans} {E : Env} {s : St} {σ : Nat → Nat} {τ : Nat → Value} {a : Act} {w : World} {K : D → St → Prop} {f : FuncId} {args : List D}

theorem below_le (hs : HR E s.H s.nx σ τ w) {w' : World} (hb : Below w.heap.size w w') : (ctxOf E s.H s.nx σ τ w).Le (ctxOf E s.H s.nx σ τ w') :=
  ⟨fun b o hk hc => (hb.block b hk.2.1).trans hc, fun b hk => ⟨hk.1, Nat.lt_of_lt_of_le hk.2.1 hb.size, hk.2.2⟩, fun _ _ _ h => h, fun _ _ h => h, fun _ _ _ h => h⟩

theorem Kept.below {w w' : World} (h : Kept E w) (hb : Under w.heap.size w w') : Kept E w' :=
  ⟨hb.os.trans h.os, hb.tape.trans h.tape, hb.output.trans h.output, Nat.le_trans h.size hb.size, fun k hk hn => (hb.block k (Nat.lt_of_lt_of_le hk h.size)).trans (h.block k hk hn), Nat.le_trans h.drawn hb.drawn⟩

theorem own_below {w w' : World} {base e size n : Nat} {v : Value} {xs : List Value} (h : w.ownsRow base e size v n xs) (hb : Below w.heap.size w w') : w'.ownsRow base e size v n xs := by
  refine ⟨h.1, ?_⟩
  rcases h.2 with h2 | ⟨g, cap, cur, hv, hbase, hg, hr⟩
  · exact .inl h2
  · exact .inr ⟨g, cap, cur, hv, hbase, (hb.block g (Array.getElem?_eq_some_iff.1 hg).1).trans hg, hr⟩

theorem below_state (hs : SR E s σ τ a w) {w' : World} (hb : Under w.heap.size w w') : SR E s σ τ a w' := by
  have hle := below_le hs.heap hb.toBelow
  refine ⟨⟨hs.heap.kept.below hb, hs.heap.few, fun id el l h => ?_, fun id α el e enc L h => ?_, hs.heap.apart, hs.heap.below, hs.heap.slices, fun id o h => ⟨fun k hk => ⟨((hs.heap.obj id o h).1 k hk).1, Nat.lt_of_lt_of_le ((hs.heap.obj id o h).1 k hk).2 hb.size⟩, OA.at_mono (hs.heap.obj id o h).2 (fun k hk => hb.block k ((hs.heap.obj id o h).1 k hk).2) hb.size hle.still⟩⟩, hs.defers, hs.size, fun i d h => (hs.slots i d h).mono hle, hs.ghost_le rfl hle, hs.room⟩
  · obtain ⟨h1, c, h2, h3, h4⟩ := hs.heap.cells id el l h
    exact ⟨h1, c, (hb.block _ (Array.getElem?_eq_some_iff.1 h2).1).trans h2, h3, fun j d u hd hu => (h4 j d u hd hu).mono hle⟩
  · obtain ⟨h1, xs, h2, h3, h4⟩ := hs.heap.grow id α el e enc L h
    exact ⟨h1, xs, own_below h2 hb.toBelow, h3, fun i x j d u hx hd hu => (h4 i x j d u hx hd hu).mono hle.still⟩

theorem CallVC.pure {g : Bool} {Q : D → Prop} (hf : Fn P f args Q) (hcut : args.all (cutOk 6 0) = true) (h : ∀ d, Q d → K d s) : CallVC P g f args s K := by
  refine ⟨hf.1, fun E σ τ a w args' hs hr => ?_⟩
  have hr' : reps (baseCtx w (ctxOf E s.H s.nx σ τ w).ok) args args' := ⟨hr.1, fun j d u hd hu => (cut_rep 6 d _ u (all_at hcut hd) (hr.2 j d u hd hu)).mono ⟨fun _ _ _ h => h, fun _ h => h, fun _ _ _ h => absurd h.1 (Nat.not_lt_zero _), fun _ _ h => absurd h.1 (Nat.not_lt_zero _), fun _ _ _ h => absurd h.1 (Nat.not_lt_zero _)⟩⟩
  refine (hf.2 w _ args' (fun b hb => hb.2.1) hr').mono fun e w' hh => ?_
  obtain ⟨d, v, h1, rfl, h3, h4⟩ := hh
  refine ⟨d, s, σ, τ, v, h d h1, rfl, below_state hs h3, h4.mono ⟨fun _ _ _ h => h, fun b hb => ?_, fun _ _ _ h => h.elim, fun _ _ h => h.elim, fun _ _ _ h => h.elim⟩, fun _ => h3.toBelow⟩
  rcases hb with hb | ⟨hb1, hb2⟩
  · exact ⟨hb.1, Nat.lt_of_lt_of_le hb.2.1 h3.size, hb.2.2⟩
  · exact ⟨.inr (.inr (Nat.le_trans hs.heap.kept.size hb1)), hb2, fun id ho => absurd (owned_lt hs.heap ho) (by omega)⟩

theorem upto_mem : ∀ (n k i : Nat), i ∈ upto n k ↔ k ≤ i ∧ i < k + n
  | 0, k, i => by simp [upto]
  | n + 1, k, i => by
    simp only [upto, List.mem_cons, upto_mem n (k + 1) i]
    omega

end
end Go.Proofs.Ytihmdlkbfpipeaa.V
