/-
  Who is served where, and by whom: the law. Conditions: numbers are of their types.
-/
import Derived.Test.YtghfefkmmobmgaaFz
import Derived.Test.YtghfefkmmobmgaaCeL
namespace Go.Proofs.Ytghfefkmmobmgaa.V
open Go.RowKit
attribute [local irreducible] Fn CallVC OpVC

theorem eqVipOk : eqOk Try.prog 45 [1, 1, 1, 1, 1] = true := by kernel_rfl
theorem eqBackOk : eqOk Try.prog 50 [1, 1, 1, 1, 1, 2] = true := by kernel_rfl

section
variable {P : Program}
theorem Fn.exact {f : FuncId} {args : List D} {D0 : D} (h : Fn P f args fun d => DLe d D0) : Fn P f args fun d => d = D0 := by
  unfold Fn at *
  exact ⟨h.1, fun w B vs hB hr => (h.2 w B vs hB hr).mono fun e w' ⟨d, v, h1, h2, h3, h4⟩ => ⟨D0, v, rfl, h2, h3, h1 _ _ h4⟩⟩
end

/-- Two farms that are the same. -/
theorem same_fn (V : List Vip) (B : List Back) (hV : V.length ≤ 1000000) (hB : B.length ≤ 1000000) : Fn Try.prog 18 [farmD V B, farmD V B] fun d => d = boolD true := by
  refine fnOf [] Try.func18 rfl (by kernel_rfl) (Nat.le_of_ble_eq_true rfl) ?_
  conv => whnf
  refine Fork.intro (fun h1 => by simp at h1) (fun _ => ?_)
  conv => whnf
  refine Fork.intro (fun h1 => by simp at h1) (fun _ => ?_)
  conv => whnf
  refine ⟨Nat, fun k => ⟨[(5, intD k), (4, boolD false), (3, .loc 1 0), (2, .loc 0 0)], [(0, .cells 29 [rowsV V, rowsB B]), (1, .cells 29 [rowsV V, rowsB B])], 2, ([], 0)⟩,
    fun k => k ≤ V.length, fun k => V.length - k, ⟨0, [], [], ?_, Nat.zero_le _⟩, ?_⟩
  · repeat' (first | exact trivial | exact .inl (DLe.refl _) | exact .inl (DLe.nil _ _) | (refine .inr ⟨rfl, _, ?_, rfl⟩; rfl) | exact rfl | exact Nat.zero_le _ | constructor)
  · intro k hk
    conv => whnf
    refine Fork.intro (fun h1 => ?_) (fun h1 => ?_)
    · have hlt : (k : Int) < V.length := of_decide_eq_true h1
      conv => whnf
      refine ⟨rfl, ⟨by omega, hlt⟩, fun x hx => ?_⟩
      conv => whnf
      refine ⟨rfl, ⟨by omega, hlt⟩, fun x' hx' => ?_⟩
      obtain rfl : x = x' := by simpa using hx.symm.trans hx'
      conv => whnf
      refine ⟨eqVipOk, rfl, ?_⟩
      conv => whnf
      refine Fork.intro (fun h2 => by simp [eqD] at h2) (fun _ => ?_)
      conv => whnf
      rw [wrap_next (show k < V.length by omega) hV]
      refine ⟨k + 1, [], [], ?_, by show k + 1 ≤ _; omega, by show V.length - (k + 1) < V.length - k; omega⟩
      repeat' (first | exact trivial | exact .inl (DLe.refl _) | exact .inl (DLe.nil _ _) | (refine .inr ⟨rfl, _, ?_, rfl⟩; rfl) | exact rfl | exact Nat.zero_le _ | constructor)
    · conv => whnf
      refine ⟨Nat, fun k => ⟨[(6, intD k), (4, boolD false), (3, .loc 1 0), (2, .loc 0 0)], [(0, .cells 29 [rowsV V, rowsB B]), (1, .cells 29 [rowsV V, rowsB B])], 2, ([], 0)⟩,
        fun k => k ≤ B.length, fun k => B.length - k, ⟨0, [], [], ?_, Nat.zero_le _⟩, ?_⟩
      · repeat' (first | exact trivial | exact .inl (DLe.refl _) | exact .inl (DLe.nil _ _) | (refine .inr ⟨rfl, _, ?_, rfl⟩; rfl) | exact rfl | exact Nat.zero_le _ | constructor)
      · intro k hk
        conv => whnf
        refine Fork.intro (fun h1 => ?_) (fun h1 => ?_)
        · have hlt : (k : Int) < B.length := of_decide_eq_true h1
          conv => whnf
          refine ⟨rfl, ⟨by omega, hlt⟩, fun x hx => ?_⟩
          conv => whnf
          refine ⟨rfl, ⟨by omega, hlt⟩, fun x' hx' => ?_⟩
          obtain rfl : x = x' := by simpa using hx.symm.trans hx'
          conv => whnf
          refine ⟨eqBackOk, rfl, ?_⟩
          conv => whnf
          refine Fork.intro (fun h2 => by simp [eqD] at h2) (fun _ => ?_)
          conv => whnf
          rw [wrap_next (show k < B.length by omega) hB]
          refine ⟨k + 1, [], [], ?_, by show k + 1 ≤ _; omega, by show B.length - (k + 1) < B.length - k; omega⟩
          repeat' (first | exact trivial | exact .inl (DLe.refl _) | exact .inl (DLe.nil _ _) | (refine .inr ⟨rfl, _, ?_, rfl⟩; rfl) | exact rfl | exact Nat.zero_le _ | constructor)
        · conv => whnf

theorem farm_lives (w : World) : Calls Try.prog 20 #[] w fun e w' => e = .returned (.bool true) ∧ Below w.heap.size w w' :=
  lives_of (steps := 100000) (d := 60) (by kernel_rfl) w
theorem lives_fn : Fn Try.prog 20 [] fun d => d = boolD true := by
  unfold Fn
  refine ⟨⟨_, Try.func20, rfl⟩, fun w B vs _ hr => ?_⟩
  have : vs = [] := List.eq_nil_of_length_eq_zero hr.1
  subst this
  exact (farm_lives w).mono fun e w' ⟨h1, h2⟩ => ⟨_, _, rfl, h1, h2, .v⟩

/-- What is looked for stands somewhere, or nowhere. -/
theorem found {α : Type} (p : α → Bool) (L : List α) : (findI p L = -1 ∧ getAt p L = none) ∨ ∃ (k : Nat) (x : α), findI p L = k ∧ getAt p L = some x ∧ L[k]? = some x := by
  rcases findI_cases p L with ⟨h1, _⟩ | ⟨k, x, h1, h2, _, _⟩
  · exact .inl ⟨h1, by unfold getAt; rw [h1]; rfl⟩
  · refine .inr ⟨k, x, h1, ?_, h2⟩
    unfold getAt
    rw [h1, decide_eq_false (by omega : ¬ (k : Int) < 0)]
    exact h2
theorem findI_any {α : Type} (p : α → Bool) (L : List α) : decide (findI p L ≥ 0) = L.any p := by
  rcases findI_cases p L with ⟨h1, h2⟩ | ⟨k, x, h1, h2, h3, _⟩
  · rw [h1]
    symm
    rw [show decide ((-1 : Int) ≥ 0) = false from rfl, ← Bool.not_eq_true]
    intro h
    obtain ⟨x, hx, hp⟩ := List.any_eq_true.1 h
    rw [h2 x hx] at hp; cases hp
  · rw [h1, decide_eq_true (by omega : (k : Int) ≥ 0)]
    symm
    exact List.any_eq_true.2 ⟨x, List.mem_of_getElem? h2, h3⟩

theorem dle_farm (B : List Back) : DLe (.agg [.v (.slice none 0 0), rowsB B]) (farmD [] B) := fun C v h => by
  cases h with
  | agg hs hh =>
    refine .agg hs fun j d u hd hu => ?_
    match j, hd with
    | 0, hd => simp only [List.getElem?_cons_zero, Option.some.injEq] at hd; subst hd; exact DLe.nil _ _ _ _ (hh 0 _ u rfl hu)
    | 1, hd => exact hh 1 d u hd hu
theorem reps_two {C : Ctx} {d e d' e' : D} {vs : List Value} (h : DLe d d') (k : DLe e e') (hr : reps C [d, e] vs) : reps C [d', e'] vs := by
  refine ⟨hr.1, fun j x u hx hu => ?_⟩
  match j, hx with
  | 0, hx => simp only [List.getElem?_cons_zero, Option.some.injEq] at hx; subst hx; exact h _ _ (hr.2 0 d u rfl hu)
  | 1, hx => simp only [List.getElem?_cons_succ, List.getElem?_cons_zero, Option.some.injEq] at hx; subst hx; exact k _ _ (hr.2 1 e u rfl hu)

theorem farmTells_fn (L : List Deed) (hL : ∀ x, x ∈ L → x.ok) (a p t id : Int) : Fn Try.prog 6 [rowsDeed L, .v (.int .u32 a), .v (.int .u16 p), .v (.int .u8 t), intD id] fun d => d = boolD true := by
  refine fnOf [(13, [0,1,3,2,4,5,6,7,8,9,10,11,12,13,14,15,16,17,18,19,20,21,22,23,24,25,26,27,28,29,30,31]), (15, [0,1,4,5,2,3,6,7,8,9,10,11,12])] Try.func6 rfl (by kernel_rfl) (Nat.le_of_ble_eq_true rfl) ?_
  conv => whnf
  refine CallVC.pure (made_fn L hL) rfl ?_
  rintro _ rfl
  have hok : FarmOk (made L).1 (made L).2 := madeTo_ok hL _
  generalize (made L).1 = V at hok ⊢
  generalize (made L).2 = B at hok ⊢
  have hV := hok.lv
  have hB := hok.lb
  conv => whnf
  refine CallVC.pure (vip_fn V B a p t hV) rfl ?_
  rintro _ rfl
  rcases found (sameAt a p t) V with ⟨h1, h2⟩ | ⟨k, x, h1, h2, h3⟩
  rw [h2]
  conv => whnf
  refine CallVC.pure (where_fn V B a p t (by omega)) rfl ?_
  rintro _ rfl
  rw [h1]
  conv => whnf
  refine ⟨eqVipOk, rfl, ?_⟩
  conv => whnf
  rotate_left
  rw [h2]
  conv => whnf
  refine CallVC.pure (where_fn V B a p t (by omega)) rfl ?_
  rintro _ rfl
  rw [h1]
  conv => whnf
  have hk : k < V.length := (List.getElem?_eq_some_iff.1 h3).1
  refine ⟨rfl, ⟨by omega, by omega⟩, fun x' hx' => ?_⟩
  obtain rfl : x = x' := by simpa using h3.symm.trans hx'
  conv => whnf
  refine ⟨eqVipOk, rfl, ?_⟩
  conv => whnf
  refine Fork.intro (fun h => by simp [eqD] at h) (fun _ => ?_)
  conv => whnf
  all_goals
    refine ⟨Nat × Bool, fun q => ⟨[(16, intD q.1), (15, boolD q.2), (11, .loc 0 0), (10, boolD false), (1, .v (.int .u32 a)), (4, intD id)], [(0, .cells 29 [rowsV V, rowsB B])], 2, ([], 0)⟩,
      fun q => q.1 ≤ V.length ∧ q.2 = (V.take q.1).any (fun v => decide (v.addr = a)), fun q => V.length - q.1, ⟨(0, false), [], [], ?_, Nat.zero_le _, rfl⟩, ?_⟩
    · repeat' (first | exact trivial | exact .inl (DLe.refl _) | exact .inl (DLe.nil _ _) | (refine .inr ⟨rfl, _, ?_, rfl⟩; rfl) | exact rfl | exact Nat.zero_le _ | constructor)
    · rintro ⟨n, s⟩ ⟨hn, hs⟩
      dsimp only at hn hs
      conv => whnf
      refine Fork.intro (fun hf => ?_) (fun hf => ?_)
      · have hlt : (n : Int) < V.length := of_decide_eq_true hf
        have hxn : V[n]? = some V[n] := List.getElem?_eq_getElem (by omega)
        have hnext : ∀ b, b = (s || decide (V[n].addr = a)) → b = (V.take (n + 1)).any (fun v => decide (v.addr = a)) := fun b hb => by
          rw [take_snoc hxn, List.any_append, ← hs, hb]; simp
        conv => whnf
        refine Fork.intro (fun hg => ?_) (fun hg => ?_)
        · replace hg : s = true := hg
          conv => whnf
          rw [wrap_next (show n < V.length by omega) (by omega)]
          refine ⟨(n + 1, true), [], [], ?_, ⟨by show n + 1 ≤ _; omega, hnext _ (by rw [hg]; rfl)⟩, by show V.length - (n + 1) < V.length - n; omega⟩
          repeat' (first | exact trivial | exact .inl (DLe.refl _) | exact .inl (DLe.nil _ _) | (refine .inr ⟨rfl, _, ?_, rfl⟩; rfl) | exact rfl | exact Nat.zero_le _ | constructor)
        · replace hg : s = false := hg
          conv => whnf
          refine ⟨rfl, ⟨by show (0 : Int) ≤ n; omega, hlt⟩, fun x' hx' => ?_⟩
          obtain rfl : V[n] = x' := by simpa using hxn.symm.trans hx'
          conv => whnf
          rw [wrap_next (show n < V.length by omega) (by omega)]
          refine ⟨(n + 1, decide (V[n].addr = a)), [], [], ?_, ⟨by show n + 1 ≤ _; omega, hnext _ (by rw [hg]; rfl)⟩, by show V.length - (n + 1) < V.length - n; omega⟩
          repeat' (first | exact trivial | exact .inl (DLe.refl _) | exact .inl (DLe.nil _ _) | (refine .inr ⟨rfl, _, ?_, rfl⟩; rfl) | exact rfl | exact Nat.zero_le _ | constructor)
      · have hge : ¬ (n : Int) < V.length := of_decide_eq_false hf
        rw [List.take_of_length_le (by omega), ← findI_any] at hs
        subst hs
        conv => whnf
        refine CallVC.pure (get_fn V B id hB) rfl ?_
        rintro _ rfl
        rcases found (fun b : Back => decide (b.id = id)) B with ⟨g1, g2⟩ | ⟨m, y, g1, g2, g3⟩
        · rw [g2]
          conv => whnf
          refine CallVC.pure (backAt_fn V B id (by omega)) rfl ?_
          rintro _ rfl
          rw [g1]
          conv => whnf
          refine CallVC.pure (serves_fn V B a hV) rfl ?_
          rintro _ rfl
          conv => whnf
          refine Fork.intro (fun h => by simp at h) (fun _ => ?_)
          conv => whnf
          refine ⟨eqBackOk, rfl, ?_⟩
          conv => whnf
          refine CallVC.pure (farmFit_fn V B id hB).exact rfl ?_
          rintro _ rfl
          conv => whnf
          refine CallVC.pure (fit_fn V B id hB).exact rfl ?_
          rintro _ rfl
          conv => whnf
          refine CallVC.pure ((same_fn [] (B.filter (fit1 id)) (by simp) (Nat.le_trans (List.length_filter_le _ _) (by omega))).le (fun C vs h => reps_two (dle_farm _) (dle_farm _) h)) rfl ?_
          rintro _ rfl
          conv => whnf
          refine CallVC.pure lives_fn rfl ?_
          rintro _ rfl
          conv => whnf
        · rw [g2]
          conv => whnf
          refine CallVC.pure (backAt_fn V B id (by omega)) rfl ?_
          rintro _ rfl
          rw [g1]
          conv => whnf
          refine CallVC.pure (serves_fn V B a hV) rfl ?_
          rintro _ rfl
          conv => whnf
          refine Fork.intro (fun h => by simp at h) (fun _ => ?_)
          conv => whnf
          have hm : m < B.length := (List.getElem?_eq_some_iff.1 g3).1
          refine ⟨rfl, ⟨by omega, by omega⟩, fun x' hx' => ?_⟩
          obtain rfl : y = x' := by simpa using g3.symm.trans hx'
          conv => whnf
          refine ⟨eqBackOk, rfl, ?_⟩
          conv => whnf
          refine Fork.intro (fun h => by simp [eqD] at h) (fun _ => ?_)
          conv => whnf
          refine CallVC.pure (farmFit_fn V B id hB).exact rfl ?_
          rintro _ rfl
          conv => whnf
          refine CallVC.pure (fit_fn V B id hB).exact rfl ?_
          rintro _ rfl
          conv => whnf
          refine CallVC.pure ((same_fn [] (B.filter (fit1 id)) (by simp) (Nat.le_trans (List.length_filter_le _ _) (by omega))).le (fun C vs h => reps_two (dle_farm _) (dle_farm _) h)) rfl ?_
          rintro _ rfl
          conv => whnf
          refine CallVC.pure lives_fn rfl ?_
          rintro _ rfl
          conv => whnf
end Go.Proofs.Ytghfefkmmobmgaa.V
