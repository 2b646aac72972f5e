/-
  Farms: the backends that new flows may find, by the program. Conditions: short rows.
-/
import Derived.Test.YtghfefkmmobmgaaFy
namespace Go.Proofs.Ytghfefkmmobmgaa.V
open Go.RowKit
attribute [local irreducible] Fn CallVC OpVC

theorem findI_cases {α : Type} (p : α → Bool) (L : List α) : (findI p L = -1 ∧ ∀ x, x ∈ L → p x = false) ∨ ∃ (k : Nat) (x : α), findI p L = k ∧ L[k]? = some x ∧ p x = true ∧ ∀ (j : Nat) u, j < k → L[j]? = some u → p u = false := by
  unfold findI
  cases h : L.findIdx? p with
  | none => exact .inl ⟨rfl, fun x hx => by have := List.findIdx?_eq_none_iff.1 h x hx; simpa using this⟩
  | some k =>
    obtain ⟨h1, h2, h3⟩ := List.findIdx?_eq_some_iff_getElem.1 h
    refine .inr ⟨k, _, rfl, List.getElem?_eq_getElem h1, h2, fun j u hj hu => ?_⟩
    have := h3 j hj
    rw [List.getElem?_eq_getElem (by omega)] at hu
    injection hu with hu
    subst hu
    simpa using this

theorem fitnot_fn (b : Back) {vip : Int} : Fn Try.prog 65 [.agg (backD b), .fp [intD vip]] fun d => d = boolD (!fit1 vip b) := by
  refine fnOf [] Try.func65 rfl (by kernel_rfl) (Nat.le_of_ble_eq_true rfl) ?_
  conv => whnf
  repeat' (refine Fork.intro (fun _ => ?_) (fun _ => ?_) <;> conv => whnf)
  all_goals
    congr 2
    simp_all [fit1]

section
variable {P : Program}
theorem Fn.le {f : FuncId} {args args' : List D} {Q : D → Prop} (h : Fn P f args Q) (hle : ∀ C vs, reps C args' vs → reps C args vs) : Fn P f args' Q := by
  unfold Fn at *
  exact ⟨h.1, fun w B vs hB hr => h.2 w B vs hB (hle _ _ hr)⟩
end
theorem reps_head {C : Ctx} {d d' : D} {l : List D} {vs : List Value} (h : DLe d d') (hr : reps C (d :: l) vs) : reps C (d' :: l) vs := by
  refine ⟨hr.1, fun j x u hx hu => ?_⟩
  cases j with
  | zero => simp only [List.getElem?_cons_zero, Option.some.injEq] at hx; subst hx; exact h _ _ (hr.2 0 d u rfl hu)
  | succ j => exact hr.2 (j + 1) x u hx hu

theorem snap_win {k : Nat} {H : List (Nat × LO)} {id e lo n : Nat} {α : Type} {el : Nat} {enc : α → List D} {L : List α} (h : lget H id = some (.grow α el e enc L)) (hl : lo + n ≤ L.length) : snapD (k + 1) H (.win id e lo n) = .rows α e enc ((L.drop lo).take n) := by
  simp only [snapD, h]
  rw [Nat.beq_refl, show Nat.ble (lo + n) L.length = true from Nat.ble_eq_true_of_le hl]

theorem farmFit_fn (V : List Vip) (B : List Back) (vip : Int) (hB : B.length ≤ 16) : Fn Try.prog 29 [farmD V B, intD vip] fun d => DLe d (rowsB (B.filter (fit1 vip))) := by
  refine fnOf [] Try.func29 rfl (by kernel_rfl) (Nat.le_of_ble_eq_true rfl) ?_
  conv => whnf
  refine goIn [] Try.func64 rfl (by kernel_rfl) (Nat.le_of_ble_eq_true rfl) ?_
  conv => whnf
  intro b hb
  conv => whnf
  refine Fork.intro (fun h1 => ?_) (fun h1 => ?_)
  · conv => whnf
    refine goIn [] Try.func63 rfl (by kernel_rfl) (Nat.le_of_ble_eq_true rfl) ?_
    conv => whnf
    refine CallVC.snap ((indexFuncB_fn [] (c := .int .i64 vip) (fun x _ => fitnot_fn x) (by simp)).le (fun C vs h => reps_head (DLe.nil _ _) h)) ?_
    rintro _ rfl
    refine ⟨rfl, ?_⟩
    conv => whnf
    rw [hb h1]
    exact DLe.nil _ _
  · conv => whnf
    refine ⟨Back, backD, B, rfl, fun _ => rfl, by omega, by show B.length * 48 ≤ _; omega, rfl, ?_⟩
    conv => whnf
    refine goIn [] Try.func63 rfl (by kernel_rfl) (Nat.le_of_ble_eq_true rfl) ?_
    conv => whnf
    refine CallVC.snap (indexFuncB_fn B (c := .int .i64 vip) (fun x _ => fitnot_fn x) (by omega)) ?_
    rintro _ rfl
    refine ⟨rfl, ?_⟩
    rcases findI_cases (fun x => !fit1 vip x) B with ⟨h2, h3⟩ | ⟨k, x0, h2, h3, h4, h5⟩
    · rw [h2]
      conv => whnf
      rw [show B.filter (fit1 vip) = B from List.filter_eq_self.2 fun x hx => by simpa using h3 x hx]
      exact fun _ _ h => h
    · rw [h2]
      have hk : k < B.length := (List.getElem?_eq_some_iff.1 h3).1
      have hpre : (B.take k).filter (fit1 vip) = B.take k := List.filter_eq_self.2 fun x hx => by
        obtain ⟨j, hj, rfl⟩ := List.mem_iff_getElem.1 hx
        rw [List.length_take] at hj
        have := h5 j (B.take k)[j] (by omega) (by rw [List.getElem_take]; exact List.getElem?_eq_getElem (by omega))
        simpa using this
      have hpre1 : (B.take (k + 1)).filter (fit1 vip) = B.take k := by
        rw [take_snoc h3, List.filter_append, hpre]
        have : fit1 vip x0 = false := by simpa using h4
        simp [this]
      clear h2 h4 h5 hpre
      conv => whnf
      rw [wrap_next hk (by omega)]
      refine ⟨Nat × Nat × List Back, fun p => ⟨[(6, intD p.2.1), (5, intD p.1), (0, .grow 3), (1, .fn 65 [] [.loc 1 0])], [(1, .cells 3 [intD vip]), (3, .grow Back 50 6 backD p.2.2)], 4, (upto 4 0, 4)⟩,
        fun p => p.1 < p.2.1 ∧ p.2.1 ≤ B.length ∧ p.2.2.length = B.length ∧ p.2.2.take p.1 = (B.take p.2.1).filter (fit1 vip) ∧ ∀ m, p.2.1 ≤ m → p.2.2[m]? = B[m]?, fun p => B.length - p.2.1,
        ⟨(k, k + 1, B), [], [], ?_, Nat.lt_succ_self _, hk, rfl, hpre1.symm, fun _ _ => rfl⟩, ?_⟩
      · repeat' (first | exact trivial | exact .inl (DLe.refl _) | exact .inl (DLe.nil _ _) | (refine .inr ⟨rfl, _, ?_, rfl⟩; rfl) | exact rfl | exact Nat.zero_le _ | constructor)
      · rintro ⟨i, j, L⟩ ⟨hij, hj, hL, hf, hr⟩
        dsimp only at hij hj hL hf hr
        conv => whnf
        rw [hL]
        refine Fork.intro (fun h1 => ?_) (fun h1 => ?_)
        · have hlt : (j : Int) < B.length := of_decide_eq_true h1
          conv => whnf
          refine ⟨rfl, ⟨by show (0 : Int) ≤ j; omega, by show (j : Int) < L.length; omega⟩, ?_⟩
          conv => whnf
          refine ⟨rfl, by show (j : Int).toNat < L.length; omega, fun x hx => ?_⟩
          have hxj : B[j]? = some x := by
            rw [← hr j (Nat.le_refl _)]; simpa using hx
          conv => whnf
          refine CallVC.snap (fitnot_fn x) ?_
          rintro _ rfl
          refine ⟨rfl, ?_⟩
          conv => whnf
          have hn : ∀ b : Bool, fit1 vip x = b → (B.take (j + 1)).filter (fit1 vip) = L.take i ++ (match b with
              | true => [x]
              | false => []) := fun b hb => by
            rw [take_snoc hxj, List.filter_append, ← hf]
            cases b <;> simp [hb]
          refine Fork.intro (fun h2 => ?_) (fun h2 => ?_)
          · replace h2 : fit1 vip x = true := by simpa using h2
            conv => whnf
            refine ⟨rfl, ⟨by show (0 : Int) ≤ i; omega, by show (i : Int) < L.length; omega⟩, ?_⟩
            conv => whnf
            refine ⟨rfl, by show (i : Int).toNat < L.length; omega, fun x' hx' => ?_⟩
            conv => whnf
            refine ⟨rfl, x, rfl, ?_⟩
            conv => whnf
            rw [wrap_next (show i < B.length by omega) (by omega), wrap_next (show j < B.length by omega) (by omega)]
            refine ⟨(i + 1, j + 1, L.set i x), [], [], ?_, ⟨Nat.succ_lt_succ hij, by show j + 1 ≤ _; omega, by show (L.set i x).length = _; rw [List.length_set]; exact hL, ?_, fun m hm => ?_⟩, by show B.length - (j + 1) < B.length - j; omega⟩
            · repeat' (first | exact trivial | exact .inl (DLe.refl _) | exact .inl (DLe.nil _ _) | (refine .inr ⟨rfl, _, ?_, rfl⟩; rfl) | exact rfl | exact Nat.zero_le _ | constructor)
            · show (L.set i x).take (i + 1) = _
              rw [hn true h2, take_snoc (x := x) (by rw [List.getElem?_set, if_pos rfl, if_pos (by omega)]), List.take_set, List.set_eq_of_length_le (by rw [List.length_take]; omega)]
            · show (L.set i x)[m]? = _
              have hm : j + 1 ≤ m := hm
              rw [List.getElem?_set, if_neg (by omega)]
              exact hr m (by omega)
          · replace h2 : fit1 vip x = false := by simpa using h2
            conv => whnf
            rw [wrap_next (show j < B.length by omega) (by omega)]
            refine ⟨(i, j + 1, L), [], [], ?_, ⟨by show i < j + 1; omega, by show j + 1 ≤ _; omega, hL, ?_, fun m hm => hr m (by have hm : j + 1 ≤ m := hm; omega)⟩, by show B.length - (j + 1) < B.length - j; omega⟩
            · repeat' (first | exact trivial | exact .inl (DLe.refl _) | exact .inl (DLe.nil _ _) | (refine .inr ⟨rfl, _, ?_, rfl⟩; rfl) | exact rfl | exact Nat.zero_le _ | constructor)
            · show L.take i = _
              rw [hn false h2, List.append_nil]
        · have hge : ¬ (j : Int) < B.length := of_decide_eq_false h1
          have hjB : B.take j = B := List.take_of_length_le (by omega)
          rw [hjB] at hf
          conv => whnf
          refine ⟨rfl, ⟨by show (0 : Int) ≤ i; omega, by show (i : Int) ≤ L.length; omega, Int.le_refl _⟩, ?_⟩
          conv => whnf
          refine ⟨rfl, rfl, rfl, by decide, by show 0 < ((L.length : Int) - i).toNat; omega, by show (i : Int).toNat + ((L.length : Int) - i).toNat ≤ L.length; omega, ⟨0, 0, 0, 0, 0, false⟩, rfl, rfl, ?_⟩
          have hMl : (List.take (i : Int).toNat L ++ List.replicate ((L.length : Int) - i).toNat (⟨0, 0, 0, 0, 0, false⟩ : Back) ++ List.drop ((i : Int).toNat + ((L.length : Int) - i).toNat) L).length = L.length := by
            simp; omega
          have hMt : (List.take (i : Int).toNat L ++ List.replicate ((L.length : Int) - i).toNat (⟨0, 0, 0, 0, 0, false⟩ : Back) ++ List.drop ((i : Int).toNat + ((L.length : Int) - i).toNat) L).take i = L.take i := by
            rw [List.append_assoc, List.take_append_of_le_length (by simp; omega), nat_toNat, List.take_take, Nat.min_self]
          generalize hM : (List.take (i : Int).toNat L ++ List.replicate ((L.length : Int) - i).toNat (⟨0, 0, 0, 0, 0, false⟩ : Back) ++ List.drop ((i : Int).toNat + ((L.length : Int) - i).toNat) L) = M at *
          conv => whnf
          refine ⟨rfl, ⟨by omega, by show ((0 : Nat) : Int) ≤ i; omega, by show (i : Int) ≤ M.length; omega⟩, ?_⟩
          conv => whnf
          show seeD (snapD (5 + 1) _ (.win 3 6 0 i)) (fun d => DLe d _)
          rw [snap_win (L := M) rfl (by omega), seeD_eq, List.drop_zero, hMt, hf]
          exact DLe.refl _
end Go.Proofs.Ytghfefkmmobmgaa.V
