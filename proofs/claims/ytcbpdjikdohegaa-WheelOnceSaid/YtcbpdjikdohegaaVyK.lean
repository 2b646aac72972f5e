/-
  A call gone into, told behind it by other numbers: places below a number stay, all others may be named anew. Conditions: the caller's slots name places below that number alone.
-/
import Derived.Test.YtcbpdjikdohegaaK1
namespace Go.Proofs.Ytcbpdjikdohegaa.V
open Go.RowKit
section
variable {P : Program} {tt : TT} {pl : Plans} {s : St} {K : D → St → Prop} {f : FuncId} {args : List D}

theorem CallVC.to {m : Nat} (htt : ttOk P tt) (hb : entersAll P = true) (hm : P.follows .mixedOrders = true) {fn : Func} {c : Code} (hfn : P.funcs[f]? = some fn) (hc : fn.body = some c) (hok : codeOk pl fn.ntmps c = true) (hn : args.length ≤ fn.ntmps) (h0 : 0 < fn.ntmps)
    (hG : Nat.ble s.G.2 m = true) (hmx : Nat.ble m s.nx = true) (hF : s.F.all (fun p => cutOk 6 m p.2) = true)
    (h : wpc P tt pl c ⟨enumD args 0, s.H, s.nx, (upto m 0, m)⟩ fun e s' => endK e (resK tt s' fn.results.toList fun l => seeD (oneD l) fun d => ∃ r z d' H' n', Cover r z ⟨(0, d) :: s'.F, s'.H, s'.nx, s'.G⟩ ⟨[(0, d')], H', n', (upto m 0, m)⟩ ∧ K d' ⟨s.F, H', n', s.G⟩)) : CallVC P false f args s K := by
  have hG := Nat.le_of_ble_eq_true hG
  have hmx := Nat.le_of_ble_eq_true hmx
  refine ⟨⟨fn, hfn, by rw [hc]; rfl⟩, fun E σ τ a w args' hs hr => ?_⟩
  let X' : List Nat × Nat → D → Value → Prop := fun G d v => E.X G d v ∨ (G = (upto m 0, m) ∧ (d = .junk ∨ ∃ i, lget s.F i = some d ∧ v = a.tmps.getD i undef))
  let E' : Env := ⟨E.w, E.B, E.K, fn.ntmps, X'⟩
  have hheap : HR E' s.H s.nx σ τ w := ⟨⟨hs.heap.kept.os, hs.heap.kept.tape, hs.heap.kept.output, hs.heap.kept.size, hs.heap.kept.block, hs.heap.kept.drawn⟩, hs.heap.few, hs.heap.cells, hs.heap.grow, hs.heap.apart, hs.heap.below, hs.heap.slices, hs.heap.obj⟩
  have hlen : args'.length ≤ fn.ntmps := by rw [hr.1]; exact hn
  have hget : ∀ (l : List (Nat × D)), l.all (fun p => cutOk 6 m p.2) = true → ∀ i d, lget l i = some d → cutOk 6 m d = true := by
    intro l
    induction l with
    | nil => intro _ i d h; cases h
    | cons p l ih =>
      intro hl i d h
      obtain ⟨k, x⟩ := p
      simp only [List.all_cons, Bool.and_eq_true] at hl
      rw [lget] at h
      split at h
      · injection h with h; subst h; exact hl.1
      · exact ih hl.2 i d h
  have hs' : SR E' ⟨enumD args 0, s.H, s.nx, (upto m 0, m)⟩ σ τ { tmps := args'.toArray ++ Array.replicate (fn.ntmps - args'.toArray.size) undef, defers := [] } w := by
    refine ⟨hheap, rfl, by simp [E']; omega, fun i d hd => enter_slots hr fn.ntmps i d hd, fun G d v hx => ?_, hmx⟩
    rcases hx with hx | ⟨rfl, rfl | ⟨i, hi, rfl⟩⟩
    · obtain ⟨g1, g2, g3⟩ := hs.ghost G d v hx
      refine ⟨fun id h1 h2 => ?_, Nat.le_trans g2 hG, g3⟩
      have h3 := (g1 id h1 h2).1
      exact ⟨Nat.lt_of_lt_of_le h3 hG, (upto_mem _ _ _).2 ⟨Nat.zero_le _, by omega⟩⟩
    · exact ⟨fun id h1 h2 => ⟨h1, h2⟩, Nat.le_refl _, .junk⟩
    · refine ⟨fun id h1 h2 => ⟨h1, h2⟩, Nat.le_refl _, (cut_rep 6 d _ _ (hget _ hF i d hi) (hs.slots i d hi)).mono ⟨fun _ _ _ h => h, fun _ h => h, fun id off v hv => hv, fun id v hv => ⟨⟨hv.1, (upto_mem _ _ _).2 ⟨Nat.zero_le _, by have := hv.1; omega⟩⟩, hv.2⟩, fun id off v hv => ⟨⟨hv.1, (upto_mem _ _ _).2 ⟨Nat.zero_le _, by have := hv.1; omega⟩⟩, hv.2⟩⟩⟩
  refine calls_of_wp hfn hc (wp_mono (wpc_sound (E := E') htt hb hm c hok _ _ _ _ _ w h hs') fun e a1 w1 hh => ?_)
  obtain ⟨x, s1, σ1, τ1, rfl, h1, h2⟩ := hh
  have fin : resK tt s1 fn.results.toList (fun l => seeD (oneD l) fun d => ∃ r z d' H' n', Cover r z ⟨(0, d) :: s1.F, s1.H, s1.nx, s1.G⟩ ⟨[(0, d')], H', n', (upto m 0, m)⟩ ∧ K d' ⟨s.F, H', n', s.G⟩) →
      a1.defers = [] ∧ ∃ v, (results fn a1.tmps).run P w1 = .ok v w1 ∧ ∃ d s' σ' τ' u, K d s' ∧ Ending.returned v = .returned u ∧ SR E s' σ' τ' a w1 ∧ Rep (ctxOf E s'.H s'.nx σ' τ' w1) d u ∧ (false = true → Below w.heap.size w w1) := by
    intro hres
    obtain ⟨l, vs, h3, h4, h5⟩ := resK_run htt h2 _ _ hres
    rw [seeD_eq] at h3
    obtain ⟨r, z, d', H', n', hcov, hk⟩ := h3
    have hput := put_state h2 (oneD_rep h4) (dst := some 0) (fun i hi => by injection hi with hi; subst hi; exact h0)
    have hcv := cover_state hcov hput
    have hd0 := hcv.slots 0 d' (lget_same 0 d' [])
    have hval : (a1.put (some 0) (oneV vs)).tmps.getD 0 undef = oneV vs := by
      have hsz : 0 < a1.tmps.size := by rw [h2.size]; exact h0
      simp [Act.put, Array.getD_eq_getD_getElem?, hsz]
    rw [hval] at hd0
    refine ⟨h2.defers, _, results_at h5, _, _, _, _, _, hk, rfl, ⟨⟨⟨hcv.heap.kept.os, hcv.heap.kept.tape, hcv.heap.kept.output, hcv.heap.kept.size, hcv.heap.kept.block, hcv.heap.kept.drawn⟩, hcv.heap.few, hcv.heap.cells, hcv.heap.grow, hcv.heap.apart, hcv.heap.below, hcv.heap.slices, hcv.heap.obj⟩, hs.defers, hs.size, fun i d hd => ?_, fun G d v hx => ?_, ?_⟩, hd0, fun h => by cases h⟩
    · exact (hcv.ghost _ _ _ (.inr ⟨rfl, .inr ⟨i, hd, rfl⟩⟩)).2.2.mono (Ctx.only_le _ _)
    · obtain ⟨g1, g2, _⟩ := hs.ghost G d v hx
      exact ⟨g1, g2, (hcv.ghost G d v (.inl hx)).2.2⟩
    · show s.G.2 ≤ n'
      have hr' : m ≤ n' := hcv.room
      omega
  cases x with
  | normal => exact fin h1
  | ret => exact fin h1
  | exit i => exact h1.elim
/-- What is told of data, where a state tells what another one tells. -/
theorem cover_tells {r : List (Nat × Nat)} {z : List Nat} {s t : St} {E : Env} {σ : Nat → Nat} {τ : Nat → Value} {a : Act} {w : World} (h : Cover r z s t) (hs : SR E s σ τ a w) {d d' : D} {v : Value} (ht : tells r z t.nx d d') (hv : Rep (ctxOf E s.H s.nx σ τ w) d v) :
    Rep (ctxOf E t.H t.nx (fun i => σ (renOf r i)) (fun i => bif hasN z i then .slice none 0 0 else τ (renOf r i)) w) d' v := by
  obtain ⟨hF, hH, hG, hm, hr, hz⟩ := h
  have hz' : ∀ i, hasN z i = true → i < t.nx ∧ s.nx ≤ renOf r i := by
    intro i hi
    have := List.all_eq_true.1 hz i (hasN_mem hi)
    simp only [Bool.and_eq_true] at this
    exact ⟨(Nat.blt_eq ▸ this.1 : _ < _), Nat.le_of_ble_eq_true this.2⟩
  -- of places that somebody has, the old rows are meant
  have hnz : ∀ i, renOf r i < s.nx → hasN z i = false := by
    intro i hi
    cases hb : hasN z i with
    | false => rfl
    | true => have := (hz' i hb).2; omega
  have hown : ∀ id b, owned t.H (fun i => σ (renOf r i)) (fun i => bif hasN z i then .slice none 0 0 else τ (renOf r i)) id b → backOf r t.nx (renOf r id) = some id ∧ owned s.H σ τ (renOf r id) b := by
    intro id b ho
    rcases ho with ⟨el, l, h1, rfl⟩ | ⟨α, el, e, enc, L, h1, h2⟩ | ⟨o, h1, h2⟩
    rotate_left 2
    · rcases coverH_spec hH _ _ h1 with ⟨_, he⟩ | ⟨_, h0, o', h3, h4⟩
      · cases he
      · have h5 : o' = .obj o := by cases o' <;> exact h4
        subst h5
        exact ⟨h0, .inr (.inr ⟨_, h3, h2⟩)⟩
    · rcases coverH_spec hH _ _ h1 with ⟨_, he⟩ | ⟨_, h0, o', h3, h4⟩
      · cases he
      · cases o' with
        | cells el' l' => exact ⟨h0, .inl ⟨_, _, h3, rfl⟩⟩
        | _ => simp [LOLe] at h4
    · rcases coverH_spec hH _ _ h1 with ⟨hzi, _⟩ | ⟨hzi, h0, o', h3, h4⟩
      · simp only [hzi, cond_true] at h2
        cases h2
      · have h5 : o' = .grow α el e enc L := by cases o' <;> exact h4
        subst h5
        simp only [hzi, cond_false] at h2
        exact ⟨h0, .inr (.inl ⟨_, _, _, _, _, h3, h2⟩)⟩
  have hle : ((ctxOf E s.H s.nx σ τ w).ren r t.nx).Le (ctxOf E t.H t.nx (fun i => σ (renOf r i)) (fun i => bif hasN z i then .slice none 0 0 else τ (renOf r i)) w) :=
    ⟨fun _ _ _ hc => hc, fun b hb => ⟨hb.1, hb.2.1, fun id ho => hb.2.2 _ (hown id b ho).2⟩, fun id off v hv => ⟨hv.1, hv.2.2⟩, fun id v hv => ⟨hv.1, by simp only [hnz id hv.2.1, cond_false]; exact hv.2.2⟩, fun id off v hv => ⟨hv.1, by simp only [hnz id hv.2.1, cond_false]; exact hv.2.2⟩⟩
  have hzg : ∀ i, hasN z i = true → (ctxOf E t.H t.nx (fun i => σ (renOf r i)) (fun i => bif hasN z i then .slice none 0 0 else τ (renOf r i)) w).grow i (.slice none 0 0) := fun i hi => ⟨(hz' i hi).1, by simp only [hi, cond_true]⟩
  exact tells_rep ht hle hzg hv

/-- A call, from a state that tells what this one tells. -/
theorem CallVC.cov {g : Bool} {args1 : List D} (r : List (Nat × Nat)) (z : List Nat) (s1 : St) (hc : Cover r z s s1) (ha : tellsL r z s1.nx args args1) (h : CallVC P g f args1 s1 K) : CallVC P g f args s K := by
  refine ⟨h.1, fun E σ τ a w args' hs hr => ?_⟩
  obtain ⟨q1, q2⟩ := tellsL_spec ha
  refine h.2 E _ _ a w args' (cover_state hc hs) ⟨by rw [hr.1, q1], fun j d u hd hu => ?_⟩
  obtain ⟨d0, q3, q4⟩ := q2 j d hd
  exact cover_tells hc hs q4 (hr.2 j d0 u q3 hu)
end
end Go.Proofs.Ytcbpdjikdohegaa.V
