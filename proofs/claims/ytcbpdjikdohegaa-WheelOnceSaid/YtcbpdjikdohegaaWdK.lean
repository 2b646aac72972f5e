/-
  Rows of alarms thinned: slices.DeleteFunc. Conditions: rows not too long.
-/
import Derived.Test.YtcbpdjikdohegaaWqK
import Derived.Test.YtcbpdjikdohegaaVzK
namespace Go.Proofs.Ytcbpdjikdohegaa.V
open Go.RowKit
attribute [local irreducible] Fn FnN OpVC Ob RowFn

/-- A contract with a row of one's own, from the body. -/
theorem rowOf {f : FuncId} {fn : Func} {c : Code} {α : Type} {el e : Nat} {enc : α → List D} {L : List α} {rest : List D} {Q : List α → Prop} (pl : Plans) (hfn : Try.prog.funcs[f]? = some fn) (hc : fn.body = some c) (hok : codeOk pl fn.ntmps c = true) (hn : rest.length + 1 ≤ fn.ntmps)
    (h : wpc Try.prog tt pl c ⟨enumD (.grow 0 :: rest) 0, [(0, .grow α el e enc L)], 1, ([], 0)⟩ fun e1 s' => endK e1 (resK tt s' fn.results.toList fun l => seeD (oneD l) fun d => rowEnd el e enc s' d Q)) : RowFn Try.prog f el e enc L rest Q :=
  row_of_wpc ttH ebH mxH hfn hc hok hn h

theorem take_snoc {α : Type} {L : List α} {k : Nat} {x : α} (h : L[k]? = some x) : L.take (k + 1) = L.take k ++ [x] := by
  rw [List.take_add_one, h]; rfl
theorem findI_cases {α : Type} (p : α → Bool) (L : List α) : (findI p L = -1 ∧ ∀ x, x ∈ L → p x = false) ∨ ∃ (k : Nat) (x : α), findI p L = k ∧ L[k]? = some x ∧ p x = true ∧ ∀ (j : Nat) u, j < k → L[j]? = some u → p u = false := by
  unfold findI
  cases h : L.findIdx? p with
  | none => exact .inl ⟨rfl, fun x hx => by have := List.findIdx?_eq_none_iff.1 h x hx; simpa using this⟩
  | some k =>
    obtain ⟨h1, h2, h3⟩ := List.findIdx?_eq_some_iff_getElem.1 h
    refine .inr ⟨k, _, rfl, List.getElem?_eq_getElem h1, h2, fun j u hj hu => ?_⟩
    have := h3 j hj
    rw [List.getElem?_eq_getElem (by omega)] at hu
    injection hu with hu
    subst hu
    simpa using this

theorem stop1_fn (x : Al) {n : Int} : Fn Try.prog 63 [.agg (alD x), .fp [.v (.int .i64 n)]] fun d => d = boolD (isId n x) := by
  refine fnOf [] Try.func63 rfl (by kernel_rfl) (Nat.le_of_ble_eq_true rfl) ?_
  conv => whnf
  rfl

theorem indexFuncA_fn (V : List Al) {f : FuncId} {c : Value} {p : Al → Bool} (hf : ∀ x, x ∈ V → Fn Try.prog f [.agg (alD x), .fp [.v c]] fun d => d = boolD (p x)) (hV : V.length ≤ 1000000) :
    Fn Try.prog 82 [rowsA V, .fn f [] [.fp [.v c]]] fun d => d = intD (findI p V) := by
  refine fnOf [] Try.func82 rfl (by kernel_rfl) (Nat.le_of_ble_eq_true rfl) ?_
  conv => whnf
  refine ⟨Nat, fun k => ⟨[(8, intD k), (7, intD V.length), (0, rowsA V), (1, .fn f [] [.fp [.v c]])], [], 0, ([], 0)⟩,
    fun k => k ≤ V.length ∧ ∀ (j : Nat) u, j < k → V[j]? = some u → p u = false, fun k => V.length - k, ⟨0, [], [], ?_, Nat.zero_le _, fun j u h => by omega⟩, ?_⟩
  · repeat' (first | exact trivial | exact .inl (DLe.refl _) | exact .inl (DLe.nil _ _) | (refine .inr ⟨rfl, _, ?_, rfl⟩; rfl) | exact rfl | exact Nat.zero_le _ | constructor)
  · rintro k ⟨hk, hno⟩
    conv => whnf
    refine Fork.intro (fun h1 => ?_) (fun h1 => ?_)
    · have hlt : (k : Int) < V.length := of_decide_eq_true h1
      conv => whnf
      refine ⟨rfl, ⟨by omega, hlt⟩, fun x hx => ?_⟩
      have hxk : V[k]? = some x := by simpa using hx
      conv => whnf
      refine CallVC.pure (hf x (List.mem_of_getElem? hxk)) rfl ?_
      rintro _ rfl
      conv => whnf
      refine Fork.intro (fun h2 => ?_) (fun h2 => ?_)
      · conv => whnf
        rw [findI_at hxk h2 hno]
      · conv => whnf
        rw [wrap_next (show k < V.length by omega) hV]
        refine ⟨k + 1, [], [], ?_, ⟨by omega, no_next hxk h2 hno⟩, by show V.length - (k + 1) < V.length - k; omega⟩
        repeat' (first | exact trivial | exact .inl (DLe.refl _) | exact .inl (DLe.nil _ _) | (refine .inr ⟨rfl, _, ?_, rfl⟩; rfl) | exact rfl | exact Nat.zero_le _ | constructor)
    · have hge : ¬ (k : Int) < V.length := of_decide_eq_false h1
      conv => whnf
      rw [findI_none (fun j u hj => hno j u (by omega))]

/-- The row without an alarm, by the program. -/
theorem delA_row (B : List Al) (n : Int) (hB : B.length ≤ 1000) : RowFn Try.prog 62 58 2 alD B [.fn 63 [] [.fp [intD n]]] fun L' => L' = outOf n B := by
  refine rowOf [] Try.func62 rfl (by kernel_rfl) (Nat.le_of_ble_eq_true rfl) ?_
  unfold outOf
  conv => whnf
  refine CallVC.snap (indexFuncA_fn B (c := .int .i64 n) (fun x _ => stop1_fn x) (by omega)) ?_
  rintro _ rfl
  refine ⟨rfl, ?_⟩
  rcases findI_cases (isId n) B with ⟨h2, h3⟩ | ⟨k, x0, h2, h3, h4, h5⟩
  · rw [h2]
    conv => whnf
    refine ⟨rfl, rfl, B, rfl, ?_⟩
    exact (List.filter_eq_self.2 fun x hx => by simp [h3 x hx]).symm
  · rw [h2]
    have hk : k < B.length := (List.getElem?_eq_some_iff.1 h3).1
    have hpre : (B.take k).filter (fun a => !isId n a) = B.take k := List.filter_eq_self.2 fun x hx => by
      obtain ⟨j, hj, rfl⟩ := List.mem_iff_getElem.1 hx
      rw [List.length_take] at hj
      have := h5 j (B.take k)[j] (by omega) (by rw [List.getElem_take]; exact List.getElem?_eq_getElem (by omega))
      rw [this]; rfl
    have hpre1 : (B.take (k + 1)).filter (fun a => !isId n a) = B.take k := by
      rw [take_snoc h3, List.filter_append, hpre]
      simp [h4]
    clear h2 h4 h5 hpre
    conv => whnf
    rw [wrap_next hk (by omega)]
    refine ⟨Nat × Nat × List Al, fun p => ⟨[(6, intD p.2.1), (5, intD p.1), (0, .grow 0), (1, .fn 63 [] [.fp [intD n]])], [(0, .grow Al 58 2 alD p.2.2)], 1, ([], 0)⟩,
      fun p => p.1 < p.2.1 ∧ p.2.1 ≤ B.length ∧ p.2.2.length = B.length ∧ p.2.2.take p.1 = (B.take p.2.1).filter (fun a => !isId n a) ∧ ∀ m, p.2.1 ≤ m → p.2.2[m]? = B[m]?, fun p => B.length - p.2.1,
      ⟨(k, k + 1, B), [], [], ?_, Nat.lt_succ_self _, hk, rfl, hpre1.symm, fun _ _ => rfl⟩, ?_⟩
    · repeat' (first | exact trivial | exact .inl (DLe.refl _) | exact .inl (DLe.nil _ _) | (refine .inr ⟨rfl, _, ?_, rfl⟩; rfl) | exact rfl | exact Nat.zero_le _ | constructor)
    · rintro ⟨i, j, L⟩ ⟨hij, hj, hL, hf, hr⟩
      dsimp only at hij hj hL hf hr
      conv => whnf
      rw [hL]
      refine Fork.intro (fun h1 => ?_) (fun h1 => ?_)
      · have hlt : (j : Int) < B.length := of_decide_eq_true h1
        conv => whnf
        refine ⟨rfl, ⟨by show (0 : Int) ≤ j; omega, by show (j : Int) < L.length; omega⟩, ?_⟩
        conv => whnf
        refine ⟨rfl, by show (j : Int).toNat < L.length; omega, fun x hx => ?_⟩
        have hxj : B[j]? = some x := by
          rw [← hr j (Nat.le_refl _)]; simpa using hx
        conv => whnf
        refine CallVC.snap (stop1_fn x) ?_
        rintro _ rfl
        refine ⟨rfl, ?_⟩
        conv => whnf
        have hn : ∀ b : Bool, (!isId n x) = b → (B.take (j + 1)).filter (fun a => !isId n a) = L.take i ++ (match b with
            | true => [x]
            | false => []) := fun b hb => by
          rw [take_snoc hxj, List.filter_append, ← hf]
          cases b <;> simp [hb]
        refine Fork.intro (fun h2 => ?_) (fun h2 => ?_)
        · replace h2 : (!isId n x) = true := h2
          conv => whnf
          refine ⟨rfl, ⟨by show (0 : Int) ≤ i; omega, by show (i : Int) < L.length; omega⟩, ?_⟩
          conv => whnf
          refine ⟨rfl, by show (i : Int).toNat < L.length; omega, fun x' hx' => ?_⟩
          conv => whnf
          refine ⟨rfl, x, rfl, ?_⟩
          conv => whnf
          rw [wrap_next (show i < B.length by omega) (by omega), wrap_next (show j < B.length by omega) (by omega)]
          refine ⟨(i + 1, j + 1, L.set i x), [], [], ?_, ⟨Nat.succ_lt_succ hij, by show j + 1 ≤ _; omega, by show (L.set i x).length = _; rw [List.length_set]; exact hL, ?_, fun m hm => ?_⟩, by show B.length - (j + 1) < B.length - j; omega⟩
          · repeat' (first | exact trivial | exact .inl (DLe.refl _) | exact .inl (DLe.nil _ _) | (refine .inr ⟨rfl, _, ?_, rfl⟩; rfl) | exact rfl | exact Nat.zero_le _ | constructor)
          · show (L.set i x).take (i + 1) = _
            rw [hn true h2, take_snoc (x := x) (by rw [List.getElem?_set, if_pos rfl, if_pos (by omega)]), List.take_set, List.set_eq_of_length_le (by rw [List.length_take]; omega)]
          · show (L.set i x)[m]? = _
            have hm : j + 1 ≤ m := hm
            rw [List.getElem?_set, if_neg (by omega)]
            exact hr m (by omega)
        · replace h2 : (!isId n x) = false := h2
          conv => whnf
          rw [wrap_next (show j < B.length by omega) (by omega)]
          refine ⟨(i, j + 1, L), [], [], ?_, ⟨by show i < j + 1; omega, by show j + 1 ≤ _; omega, hL, ?_, fun m hm => hr m (by have hm : j + 1 ≤ m := hm; omega)⟩, by show B.length - (j + 1) < B.length - j; omega⟩
          · repeat' (first | exact trivial | exact .inl (DLe.refl _) | exact .inl (DLe.nil _ _) | (refine .inr ⟨rfl, _, ?_, rfl⟩; rfl) | exact rfl | exact Nat.zero_le _ | constructor)
          · show L.take i = _
            rw [hn false h2, List.append_nil]
      · have hge : ¬ (j : Int) < B.length := of_decide_eq_false h1
        have hjB : B.take j = B := List.take_of_length_le (by omega)
        rw [hjB] at hf
        conv => whnf
        refine ⟨rfl, ⟨by show (0 : Int) ≤ i; omega, by show (i : Int) ≤ L.length; omega, Int.le_refl _⟩, ?_⟩
        conv => whnf
        refine ⟨rfl, rfl, rfl, by decide, by show 0 < ((L.length : Int) - i).toNat; omega, by show (i : Int).toNat + ((L.length : Int) - i).toNat ≤ L.length; omega, ⟨0, 0⟩, rfl, rfl, ?_⟩
        have hMl : (List.take (i : Int).toNat L ++ List.replicate ((L.length : Int) - i).toNat (⟨0, 0⟩ : Al) ++ List.drop ((i : Int).toNat + ((L.length : Int) - i).toNat) L).length = L.length := by
          simp; omega
        have hMt : (List.take (i : Int).toNat L ++ List.replicate ((L.length : Int) - i).toNat (⟨0, 0⟩ : Al) ++ List.drop ((i : Int).toNat + ((L.length : Int) - i).toNat) L).take i = L.take i := by
          rw [List.append_assoc, List.take_append_of_le_length (by simp; omega), nat_toNat, List.take_take, Nat.min_self]
        generalize hM : (List.take (i : Int).toNat L ++ List.replicate ((L.length : Int) - i).toNat (⟨0, 0⟩ : Al) ++ List.drop ((i : Int).toNat + ((L.length : Int) - i).toNat) L) = M at *
        conv => whnf
        refine ⟨rfl, ⟨by omega, by show (i : Int) ≤ M.length; omega⟩, ?_⟩
        conv => whnf
        refine ⟨rfl, rfl, by show i ≤ M.length; omega, L.take i, ?_, hf⟩
        show (M.take i).map alD = _
        rw [hMt]
end Go.Proofs.Ytcbpdjikdohegaa.V
