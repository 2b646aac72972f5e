/-
  The document's slots, by value: putting and dropping. Conditions: flows' numbers are of their kinds, rows not too long.
-/
import Derived.Test.YtcbpdjikdohegaaYo
namespace Go.Proofs.Ytcbpdjikdohegaa.V
open Go.RowKit
attribute [local irreducible] Fn FnN OpVC Ob ObS NewS

theorem rdrop_ob (N : Nat) (S : List En) (hS : S.length ≤ 1000) (f : Fl) : Ob Try.prog 12 43 (rX N S) [.agg (flD f)] fun d X' => match S.findIdx? (isFl f) with
    | none => d = boolD false ∧ X' = rX N S
    | some k => d = boolD true ∧ X' = rX N (S.eraseIdx k) := by
  refine obOf [] Try.func12 rfl (by kernel_rfl) (Nat.le_of_ble_eq_true rfl) ?_
  conv => whnf
  refine CallVC.look (rfind_fn N S hS f) rfl ?_
  rintro _ rfl
  unfold findI
  cases hq : S.findIdx? (isFl f) with
  | none =>
    dsimp only
    conv => whnf
    exact ⟨rfl, rfl⟩
  | some q =>
    dsimp only
    conv => whnf
    rw [show decide ((q : Int) < 0) = false from decide_eq_false (by omega)]
    conv => whnf
    refine ⟨Nat, fun k => ⟨[(7, intD k), (6, .grow 2), (5, intD q), (0, .loc 0 0)], [(2, .grow En 46 13 enD ((S.take k).eraseIdx q)), (0, .cells 43 (rX N S))], 3, ([0], 1)⟩,
      fun k => k ≤ S.length, fun k => S.length - k, ⟨0, [], [2], ?_, Nat.zero_le _⟩, ?_⟩
    · repeat' (first | exact trivial | exact .inl (DLe.refl _) | exact .inl (DLe.nil _ _) | (refine .inr ⟨rfl, _, ?_, rfl⟩; rfl) | exact rfl | exact Nat.zero_le _ | constructor)
    · intro k hk
      replace hk : k ≤ S.length := hk
      conv => whnf
      cases g1 : decide ((k : Int) < S.length) with
      | true =>
        have hlt : k < S.length := by have := of_decide_eq_true g1; omega
        obtain ⟨x, hx⟩ : ∃ x, S[k]? = some x := ⟨_, List.getElem?_eq_getElem hlt⟩
        have htk : S.take (k + 1) = S.take k ++ [x] := by rw [List.take_add_one, hx]; rfl
        have hkl : (S.take k).length = k := by rw [List.length_take]; omega
        have hel : ((S.take k).eraseIdx q).length ≤ k := by
          have := List.length_eraseIdx_le (S.take k) q
          omega
        conv => whnf
        cases g2 : (!decide ((k : Int) = q)) with
        | true =>
          have hne : k ≠ q := by
            have : decide ((k : Int) = q) = false := by simpa using g2
            have := of_decide_eq_false this
            omega
          have hstep : (S.take (k + 1)).eraseIdx q = (S.take k).eraseIdx q ++ [x] := by
            rw [htk]
            rcases Nat.lt_or_gt_of_ne hne with h | h
            · rw [List.eraseIdx_of_length_le (by simp; omega), List.eraseIdx_of_length_le (by omega)]
            · rw [List.eraseIdx_append_of_lt_length (by omega)]
          conv => whnf
          refine ⟨rfl, ⟨by omega, by omega⟩, fun y hy => ?_⟩
          obtain rfl : y = x := by rw [Int.toNat_natCast, hx] at hy; injection hy with hy; exact hy.symm
          conv => whnf
          refine ⟨Nat.le_of_ble_eq_true rfl, ?_⟩
          conv => whnf
          refine ⟨En, enD, (S.take k).eraseIdx q ++ [y], ?_, fun _ => rfl, ?_, ?_, rfl, ?_⟩
          · rw [List.map_append]; rfl
          · rw [List.length_append]; simp only [List.length_cons, List.length_nil]; omega
          · rw [List.length_append]; simp only [List.length_cons, List.length_nil]; omega
          rw [← hstep]
          conv => whnf
          rw [wrap_next (show k < 1000 by omega) (by omega)]
          refine ⟨k + 1, [(2, 3)], [], ?_, hlt, by show S.length - (k + 1) < S.length - k; omega⟩
          repeat' (first | exact trivial | exact .inl (DLe.refl _) | exact .inl (DLe.nil _ _) | (refine .inr ⟨rfl, _, ?_, rfl⟩; rfl) | exact rfl | exact Nat.zero_le _ | constructor)
        | false =>
          have hkq : k = q := by
            have : decide ((k : Int) = q) = true := by simpa using g2
            have := of_decide_eq_true this
            omega
          have hstep : (S.take (k + 1)).eraseIdx q = (S.take k).eraseIdx q := by
            rw [htk, ← hkq, List.eraseIdx_of_length_le (l := S.take k) (by omega), List.eraseIdx_append_of_length_le (by omega), hkl, Nat.sub_self]
            simp
          rw [← hstep]
          conv => whnf
          rw [wrap_next (show k < 1000 by omega) (by omega)]
          refine ⟨k + 1, [], [], ?_, hlt, by show S.length - (k + 1) < S.length - k; omega⟩
          repeat' (first | exact trivial | exact .inl (DLe.refl _) | exact .inl (DLe.nil _ _) | (refine .inr ⟨rfl, _, ?_, rfl⟩; rfl) | exact rfl | exact Nat.zero_le _ | constructor)
      | false =>
        have hin : k = S.length := by have := of_decide_eq_false g1; omega
        rw [hin, List.take_length]
        conv => whnf
        exact ⟨rfl, rfl⟩

/-- One more entry, where it stands. -/
def enP (f : Fl) (v : Int) : En := ⟨f, 0, 0, v, false, false, 0, 0, 0⟩
structure InsAt (f : Fl) (S : List En) (j : Nat) : Prop where
  le : j ≤ S.length
  lo : ∀ (m : Nat) u, m < j → S[m]? = some u → ¬ flK f < flK u.f
  hi : ∀ u, S[j]? = some u → flK f < flK u.f
theorem rput_ob (N : Nat) (S : List En) (hS : S.length ≤ 1000) {f : Fl} (hf : FlOk f) (hfl : ∀ x, x ∈ S → FlOk x.f) (v : Int) : Ob Try.prog 14 43 (rX N S) [.agg (flD f), intD v] fun d X' => match S.findIdx? (isFl f) with
    | some _ => d = intD 9 ∧ X' = rX N S
    | none => match decide ((S.length : Int) = N) with
      | true => d = intD 7 ∧ X' = rX N S
      | false => d = intD 0 ∧ ∃ j, InsAt f S j ∧ X' = rX N (S.take j ++ enP f v :: S.drop j) := by
  refine obOf [(3, [0, 1, 2, 3, 4, 5, 6, 7, 8, 9])] Try.func14 rfl (by kernel_rfl) (Nat.le_of_ble_eq_true rfl) ?_
  conv => whnf
  refine CallVC.look (rfind_fn N S hS f) rfl ?_
  rintro _ rfl
  unfold findI
  cases hq : S.findIdx? (isFl f) with
  | some q =>
    dsimp only
    conv => whnf
    exact ⟨rfl, rfl⟩
  | none =>
    dsimp only
    conv => whnf
    cases g0 : decide ((S.length : Int) = N) with
    | true =>
      conv => whnf
      exact ⟨rfl, rfl⟩
    | false =>
    conv => whnf
    refine ⟨Nat × Option Nat, fun g => ⟨[(9, intD g.1), (8, boolD g.2.isSome), (7, .grow 2), (4, .loc 1 0), (2, intD v), (0, .loc 0 0)], [(2, .grow En 46 13 enD (match g.2 with | none => S.take g.1 | some j => S.take j ++ enP f v :: (S.take g.1).drop j)), (1, .cells 29 (flD f)), (0, .cells 43 (rX N S))], 3, ([0], 1)⟩,
      fun g => g.1 ≤ S.length ∧ match g.2 with
        | none => ∀ (m : Nat) u, m < g.1 → S[m]? = some u → ¬ flK f < flK u.f
        | some j => j ≤ g.1 ∧ InsAt f S j, fun g => S.length - g.1, ⟨(0, none), [], [2], ?_, Nat.zero_le _, fun m u h => absurd h (Nat.not_lt_zero _)⟩, ?_⟩
    · repeat' (first | exact trivial | exact .inl (DLe.refl _) | exact .inl (DLe.nil _ _) | (refine .inr ⟨rfl, _, ?_, rfl⟩; rfl) | exact rfl | exact Nat.zero_le _ | constructor)
    · rintro ⟨k, jo⟩ ⟨hk, hC⟩
      dsimp only at hk hC
      cases g1 : decide ((k : Int) < S.length) with
      | true =>
        have hlt : k < S.length := by have := of_decide_eq_true g1; omega
        obtain ⟨x, hx⟩ : ∃ x, S[k]? = some x := ⟨_, List.getElem?_eq_getElem hlt⟩
        have hxf : FlOk x.f := hfl x (List.mem_of_getElem? hx)
        have htk : S.take (k + 1) = S.take k ++ [x] := by rw [List.take_add_one, hx]; rfl
        have hkl : (S.take k).length = k := by rw [List.length_take]; omega
        have hw : IntKind.i64.wrap ((k : Int) + 1) = ((k + 1 : Nat) : Int) := wrap_next (show k < 1000 by omega) (by omega)
        cases jo with
        | none =>
          replace hC : ∀ (m : Nat) u, m < k → S[m]? = some u → ¬ flK f < flK u.f := hC
          conv => whnf
          rw [g1]
          conv => whnf
          refine ⟨rfl, ⟨by omega, by omega⟩, fun y hy => ?_⟩
          obtain rfl : y = x := by rw [Int.toNat_natCast, hx] at hy; injection hy with hy; exact hy.symm
          conv => whnf
          refine CallVC.pure (rcmp_fn hf hxf) rfl ?_
          rintro _ rfl
          conv => whnf
          rw [cmpI_lt]
          cases g2 : decide (flK f < flK y.f) with
          | true =>
            have hlt2 := of_decide_eq_true g2
            conv => whnf
            refine ⟨Nat.le_of_ble_eq_true rfl, ?_⟩
            conv => whnf
            refine ⟨En, enD, S.take k ++ [enP f v], ?_, fun _ => rfl, ?_, ?_, rfl, ?_⟩
            · rw [List.map_append]; rfl
            · rw [List.length_append]; simp only [List.length_cons, List.length_nil]; omega
            · rw [List.length_append]; simp only [List.length_cons, List.length_nil]; omega
            conv => whnf
            refine ⟨rfl, ⟨by omega, by omega⟩, fun z hz => ?_⟩
            obtain rfl : z = y := by rw [Int.toNat_natCast, hx] at hz; injection hz with hz; exact hz.symm
            conv => whnf
            refine ⟨Nat.le_of_ble_eq_true rfl, ?_⟩
            conv => whnf
            refine ⟨En, enD, S.take k ++ enP f v :: (S.take (k + 1)).drop k, ?_, fun _ => rfl, ?_, ?_, rfl, ?_⟩
            · rw [htk, List.drop_left' hkl]; simp only [List.map_append, List.map_cons, List.map_nil, List.append_assoc]; rfl
            · rw [htk, List.drop_left' hkl, List.length_append]; simp only [List.length_cons, List.length_nil]; omega
            · rw [htk, List.drop_left' hkl, List.length_append]; simp only [List.length_cons, List.length_nil]; omega
            conv => whnf
            rw [hw]
            refine ⟨(k + 1, some k), [(2, 4)], [], ?_, ⟨hlt, by show k ≤ k + 1; omega, ⟨by omega, hC, fun u hu => ?_⟩⟩, by show S.length - (k + 1) < S.length - k; omega⟩
            · repeat' (first | exact trivial | exact .inl (DLe.refl _) | exact .inl (DLe.nil _ _) | (refine .inr ⟨rfl, _, ?_, rfl⟩; rfl) | exact rfl | exact Nat.zero_le _ | constructor)
            · rw [hx] at hu; injection hu with hu; subst hu; exact hlt2
          | false =>
            have hlt2 := of_decide_eq_false g2
            conv => whnf
            refine ⟨rfl, ⟨by omega, by omega⟩, fun z hz => ?_⟩
            obtain rfl : z = y := by rw [Int.toNat_natCast, hx] at hz; injection hz with hz; exact hz.symm
            conv => whnf
            refine ⟨Nat.le_of_ble_eq_true rfl, ?_⟩
            conv => whnf
            refine ⟨En, enD, S.take (k + 1), ?_, fun _ => rfl, ?_, ?_, rfl, ?_⟩
            · rw [htk, List.map_append]; rfl
            · rw [List.length_take]; omega
            · show _ * 56 ≤ _; rw [List.length_take]; omega
            conv => whnf
            rw [hw]
            refine ⟨(k + 1, none), [(2, 3)], [], ?_, ⟨hlt, fun m u hm hu => ?_⟩, by show S.length - (k + 1) < S.length - k; omega⟩
            · repeat' (first | exact trivial | exact .inl (DLe.refl _) | exact .inl (DLe.nil _ _) | (refine .inr ⟨rfl, _, ?_, rfl⟩; rfl) | exact rfl | exact Nat.zero_le _ | constructor)
            · by_cases hmk : m = k
              · rw [hmk, hx] at hu; injection hu with hu; subst hu; exact hlt2
              · exact hC m u (by have : m < k + 1 := hm; omega) hu
        | some j =>
          obtain ⟨hjk, hI⟩ : j ≤ k ∧ InsAt f S j := hC
          have hdk : (S.take (k + 1)).drop j = (S.take k).drop j ++ [x] := by rw [htk, List.drop_append_of_le_length (by omega)]
          conv => whnf
          rw [g1]
          conv => whnf
          refine ⟨rfl, ⟨by omega, by omega⟩, fun z hz => ?_⟩
          obtain rfl : z = x := by rw [Int.toNat_natCast, hx] at hz; injection hz with hz; exact hz.symm
          conv => whnf
          refine ⟨Nat.le_of_ble_eq_true rfl, ?_⟩
          conv => whnf
          refine ⟨En, enD, S.take j ++ enP f v :: (S.take (k + 1)).drop j, ?_, fun _ => rfl, ?_, ?_, rfl, ?_⟩
          · rw [hdk]; simp only [List.map_append, List.map_cons, List.map_nil, List.append_assoc, List.cons_append]; rfl
          · rw [List.length_append, List.length_cons, List.length_drop, List.length_take, List.length_take]; omega
          · show _ * 56 ≤ _; rw [List.length_append, List.length_cons, List.length_drop, List.length_take, List.length_take]; omega
          conv => whnf
          rw [hw]
          refine ⟨(k + 1, some j), [(2, 3)], [], ?_, ⟨hlt, by show j ≤ k + 1; omega, hI⟩, by show S.length - (k + 1) < S.length - k; omega⟩
          repeat' (first | exact trivial | exact .inl (DLe.refl _) | exact .inl (DLe.nil _ _) | (refine .inr ⟨rfl, _, ?_, rfl⟩; rfl) | exact rfl | exact Nat.zero_le _ | constructor)
      | false =>
        have hin : k = S.length := by have := of_decide_eq_false g1; omega
        subst hin
        cases jo with
        | none =>
          replace hC : ∀ (m : Nat) u, m < S.length → S[m]? = some u → ¬ flK f < flK u.f := hC
          conv => whnf
          rw [g1]
          conv => whnf
          refine ⟨Nat.le_of_ble_eq_true rfl, ?_⟩
          conv => whnf
          refine ⟨En, enD, S.take S.length ++ enP f v :: S.drop S.length, ?_, fun _ => rfl, ?_, ?_, rfl, ?_⟩
          · rw [List.drop_length, List.map_append]; rfl
          · rw [List.drop_length, List.length_append, List.length_take]; simp only [List.length_cons, List.length_nil]; omega
          · rw [List.drop_length, List.length_append, List.length_take]; simp only [List.length_cons, List.length_nil]; omega
          conv => whnf
          exact ⟨rfl, S.length, ⟨Nat.le_refl _, hC, fun u hu => by rw [List.getElem?_eq_none (Nat.le_refl _)] at hu; cases hu⟩, rfl⟩
        | some j =>
          obtain ⟨hjk, hI⟩ : j ≤ S.length ∧ InsAt f S j := hC
          conv => whnf
          rw [g1]
          conv => whnf
          exact ⟨rfl, j, hI, by rw [List.take_length]⟩
end Go.Proofs.Ytcbpdjikdohegaa.V
