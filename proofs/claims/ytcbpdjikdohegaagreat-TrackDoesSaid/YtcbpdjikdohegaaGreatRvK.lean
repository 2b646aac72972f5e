/-
  The document's deeds with a track beside other objects. Conditions: flows' numbers are of their kinds, rows not too long, ticks not too great. (Printed by gen_rv.py.)
-/
import Derived.Test.YtcbpdjikdohegaaGreatK18
import Derived.Test.YtcbpdjikdohegaaGreatKlK
namespace Go.Proofs.YtcbpdjikdohegaaGreat.V
open Go.RowKit
attribute [local irreducible] Fn FnN OpVC Ob RowFn ObS NewS

structure Tde where
  kind : Int
  e : En
  n : Int
structure TdOk (x : Tde) : Prop where
  f : FlOk x.e.f
def tdD (x : Tde) : List D := intD x.kind :: enD x.e ++ [intD x.n]
abbrev rowsT (L : List Tde) : D := .rows Tde 15 tdD L
abbrev rcH (X0 : LO) (x0 : Tde) (N : Nat) (now : Int) (S : List En) : List (Nat × LO) := [(0, X0), (1, .cells 33 [intD N, intD now, .grow 3]), (2, .cells 41 (tdD x0)), (3, .grow En 39 13 enD S)]

set_option maxHeartbeats 4000000 in
theorem rkeep_vc (F : List (Nat × D)) (G : List Nat × Nat) (X0 : LO) (x0 : Tde) (N : Nat) (now : Int) (S : List En) (e : En) (w : Int) (hS : S.length ≤ 1000) (hn : 0 ≤ now ∧ now ≤ 1099511500000) {K : D → St → Prop} (hF : F.all (fun p => cutOk 6 3 p.2) = true) (hG : Nat.ble G.2 3 = true) (hX : ∀ r z n, LOLe r z n X0 X0)
    (hK : ∀ b S', keepS S now e w = (b, S') → K (boolD b) ⟨F, rcH X0 x0 N now S', 4, G⟩) : CallVC Tryz.prog false 10 [.loc 1 0, .agg (enD e), intD w] ⟨F, rcH X0 x0 N now S, 4, G⟩ K := by
  refine toIn 3 [] Tryz.func10 rfl (by kernel_rfl) (Nat.le_of_ble_eq_true rfl) (by decide) hG rfl hF ?_
  conv => whnf
  refine CallVC.look (r23find_fn N now S hS e.f) rfl ?_
  rintro _ rfl
  unfold findI
  cases hq : S.findIdx? (isFl e.f) with
  | none =>
    dsimp only
    conv => whnf
    refine ⟨[], [], boolD false, rcH X0 x0 N now S, 4, ?_, hK _ _ (by unfold keepS; simp only [hq])⟩
    repeat' (first | exact trivial | exact .inl (DLe.refl _) | exact .inl (DLe.nil _ _) | (refine .inr ⟨rfl, _, ?_, rfl⟩; rfl) | exact rfl | exact Nat.zero_le _ | constructor)
    all_goals exact hX _ _ _
  | some q =>
    have hql : q < S.length := (List.findIdx?_eq_some_iff_getElem.1 hq).1
    dsimp only
    cases g1 : decide (w < 1) with
    | true =>
      have g1' := of_decide_eq_true g1
      have hnot := decide_eq_false (show ¬ (1 ≤ w ∧ w ≤ 4095) by omega)
      conv => whnf
      rw [g1]
      conv => whnf
      refine ⟨[], [], boolD false, rcH X0 x0 N now S, 4, ?_, hK _ _ (by unfold keepS; simp only [hq, hnot])⟩
      repeat' (first | exact trivial | exact .inl (DLe.refl _) | exact .inl (DLe.nil _ _) | (refine .inr ⟨rfl, _, ?_, rfl⟩; rfl) | exact rfl | exact Nat.zero_le _ | constructor)
      all_goals exact hX _ _ _
    | false =>
    have g1' := of_decide_eq_false g1
    cases g2 : decide (4095 < w) with
    | true =>
      have g2' := of_decide_eq_true g2
      have hnot := decide_eq_false (show ¬ (1 ≤ w ∧ w ≤ 4095) by omega)
      conv => whnf
      rw [g1]
      conv => whnf
      rw [g2]
      conv => whnf
      refine ⟨[], [], boolD false, rcH X0 x0 N now S, 4, ?_, hK _ _ (by unfold keepS; simp only [hq, hnot])⟩
      repeat' (first | exact trivial | exact .inl (DLe.refl _) | exact .inl (DLe.nil _ _) | (refine .inr ⟨rfl, _, ?_, rfl⟩; rfl) | exact rfl | exact Nat.zero_le _ | constructor)
      all_goals exact hX _ _ _
    | false =>
    have g2' := of_decide_eq_false g2
    have hw : IntKind.i64.wrap (now + w) = now + w := IntWalk.i64_in _ (by omega)
    have hyes := decide_eq_true (show 1 ≤ w ∧ w ≤ 4095 by omega)
    conv => whnf
    rw [g1]
    conv => whnf
    rw [g2]
    conv => whnf
    rw [hw]
    refine ⟨rfl, ⟨Int.natCast_nonneg _, Int.ofNat_lt.2 hql⟩, ?_⟩
    conv => whnf
    refine ⟨rfl, hql, fun x hx => ?_⟩
    conv => whnf
    refine ⟨rfl, { e with at_ := now + w }, rfl, ?_⟩
    conv => whnf
    refine ⟨[], [], boolD true, rcH X0 x0 N now (S.set q { e with at_ := now + w }), 4, ?_, hK _ _ (by unfold keepS; simp only [hq, hyes])⟩
    repeat' (first | exact trivial | exact .inl (DLe.refl _) | exact .inl (DLe.nil _ _) | (refine .inr ⟨rfl, _, ?_, rfl⟩; rfl) | exact rfl | exact Nat.zero_le _ | constructor)
    all_goals exact hX _ _ _

set_option maxHeartbeats 4000000 in
theorem rdrop_vc (F : List (Nat × D)) (G : List Nat × Nat) (X0 : LO) (x0 : Tde) (N : Nat) (now : Int) (S : List En) (f : Fl) (hS : S.length ≤ 1000) {K : D → St → Prop} (hF : F.all (fun p => cutOk 6 3 p.2) = true) (hG : Nat.ble G.2 3 = true) (hX : ∀ r z n, LOLe r z n X0 X0)
    (hK : ∀ b S', dropS S f = (b, S') → K (boolD b) ⟨F, rcH X0 x0 N now S', 4, G⟩) : CallVC Tryz.prog false 12 [.loc 1 0, .agg (flD f)] ⟨F, rcH X0 x0 N now S, 4, G⟩ K := by
  refine toIn 3 [] Tryz.func12 rfl (by kernel_rfl) (Nat.le_of_ble_eq_true rfl) (by decide) hG rfl hF ?_
  conv => whnf
  refine CallVC.look (r23find_fn N now S hS f) rfl ?_
  rintro _ rfl
  unfold findI
  cases hq : S.findIdx? (isFl f) with
  | none =>
    dsimp only
    conv => whnf
    refine ⟨[], [], boolD false, rcH X0 x0 N now S, 4, ?_, hK _ _ (by unfold dropS; simp only [hq])⟩
    repeat' (first | exact trivial | exact .inl (DLe.refl _) | exact .inl (DLe.nil _ _) | (refine .inr ⟨rfl, _, ?_, rfl⟩; rfl) | exact rfl | exact Nat.zero_le _ | constructor)
    all_goals exact hX _ _ _
  | some q =>
    dsimp only
    conv => whnf
    refine ⟨Nat, fun k => ⟨[(7, intD k), (6, .grow 4), (5, intD q), (0, .loc 1 0)], (4, .grow En 39 13 enD ((S.take k).eraseIdx q)) :: rcH X0 x0 N now S, 5, (upto 3 0, 3)⟩,
      fun k => k ≤ S.length, fun k => S.length - k, ⟨0, [(4, 70)], [4], ?_, Nat.zero_le _⟩, ?_⟩
    · repeat' (first | exact trivial | exact .inl (DLe.refl _) | exact .inl (DLe.nil _ _) | (refine .inr ⟨rfl, _, ?_, rfl⟩; rfl) | exact rfl | exact Nat.zero_le _ | constructor)
      all_goals exact hX _ _ _
    · intro k hk
      replace hk : k ≤ S.length := hk
      conv => whnf
      refine Fork.intro (fun g1 => ?_) (fun g1 => ?_)
      · have hlt : k < S.length := by have : (k : Int) < S.length := of_decide_eq_true g1; omega
        obtain ⟨x, hx⟩ : ∃ x, S[k]? = some x := ⟨_, List.getElem?_eq_getElem hlt⟩
        have htk : S.take (k + 1) = S.take k ++ [x] := by rw [List.take_add_one, hx]; rfl
        have hkl : (S.take k).length = k := by rw [List.length_take]; omega
        have hel : ((S.take k).eraseIdx q).length ≤ k := by
          have := List.length_eraseIdx_le (S.take k) q
          omega
        conv => whnf
        refine Fork.intro (fun g2 => ?_) (fun g2 => ?_)
        · have g2 : (!decide ((k : Int) = q)) = true := g2
          have hne : k ≠ q := by
            have : decide ((k : Int) = q) = false := by simpa using g2
            have := of_decide_eq_false this
            omega
          have hstep : (S.take (k + 1)).eraseIdx q = (S.take k).eraseIdx q ++ [x] := by
            rw [htk]
            rcases Nat.lt_or_gt_of_ne hne with h | h
            · rw [List.eraseIdx_of_length_le (by simp; omega), List.eraseIdx_of_length_le (by omega)]
            · rw [List.eraseIdx_append_of_lt_length (by omega)]
          conv => whnf
          refine ⟨rfl, ⟨Int.natCast_nonneg _, Int.ofNat_lt.2 hlt⟩, ?_⟩
          conv => whnf
          refine ⟨rfl, hlt, fun y hy => ?_⟩
          obtain rfl : y = x := by rw [Int.toNat_natCast, hx] at hy; injection hy with hy; exact hy.symm
          conv => whnf
          (refine ⟨Nat.le_of_ble_eq_true rfl, ?_⟩; conv => whnf)
          refine ⟨En, enD, (S.take k).eraseIdx q ++ [y], (by rw [List.map_append]; rfl), fun _ => rfl, by simp only [List.length_append, List.length_cons, List.length_nil]; omega, by simp only [List.length_append, List.length_cons, List.length_nil]; omega, rfl, ?_⟩
          rw [← hstep]
          conv => whnf
          rw [wrap_next (show k < 1000 by omega) (by omega)]
          refine ⟨k + 1, [(4, 5)], [], ?_, hlt, by show S.length - (k + 1) < S.length - k; omega⟩
          repeat' (first | exact trivial | exact .inl (DLe.refl _) | exact .inl (DLe.nil _ _) | (refine .inr ⟨rfl, _, ?_, rfl⟩; rfl) | exact rfl | exact Nat.zero_le _ | constructor)
          all_goals exact hX _ _ _
        · have g2 : (!decide ((k : Int) = q)) = false := g2
          have hkq : k = q := by
            have : decide ((k : Int) = q) = true := by simpa using g2
            have := of_decide_eq_true this
            omega
          have hstep : (S.take (k + 1)).eraseIdx q = (S.take k).eraseIdx q := by
            rw [htk, ← hkq, List.eraseIdx_of_length_le (l := S.take k) (by omega), List.eraseIdx_append_of_length_le (by omega), hkl, Nat.sub_self]
            simp
          rw [← hstep]
          conv => whnf
          rw [wrap_next (show k < 1000 by omega) (by omega)]
          refine ⟨k + 1, [], [], ?_, hlt, by show S.length - (k + 1) < S.length - k; omega⟩
          repeat' (first | exact trivial | exact .inl (DLe.refl _) | exact .inl (DLe.nil _ _) | (refine .inr ⟨rfl, _, ?_, rfl⟩; rfl) | exact rfl | exact Nat.zero_le _ | constructor)
          all_goals exact hX _ _ _
      · have hin : k = S.length := by have : ¬ (k : Int) < S.length := of_decide_eq_false g1; omega
        rw [hin, List.take_length]
        conv => whnf
        refine ⟨[(3, 4)], [], boolD true, rcH X0 x0 N now (S.eraseIdx q), 4, ?_, hK _ _ (by unfold dropS; simp only [hq])⟩
        repeat' (first | exact trivial | exact .inl (DLe.refl _) | exact .inl (DLe.nil _ _) | (refine .inr ⟨rfl, _, ?_, rfl⟩; rfl) | exact rfl | exact Nat.zero_le _ | constructor)
        all_goals exact hX _ _ _

set_option maxHeartbeats 4000000 in
theorem radd_vc (F : List (Nat × D)) (G : List Nat × Nat) (X0 : LO) (x0 : Tde) (N : Nat) (now : Int) (S : List En) (e : En) (w : Int) (hS : S.length ≤ 300) (hn : 0 ≤ now ∧ now ≤ 1099511500000) (hf : FlOk e.f) (hfl : ∀ x, x ∈ S → FlOk x.f) {K : D → St → Prop} (hF : F.all (fun p => cutOk 6 3 p.2) = true) (hG : Nat.ble G.2 3 = true) (hX : ∀ r z n, LOLe r z n X0 X0)
    (hK : ∀ r S', addS N S now e w = (r, S') → K (intD r) ⟨F, rcH X0 x0 N now S', 4, G⟩) : CallVC Tryz.prog false 8 [.loc 1 0, .agg (enD e), intD w] ⟨F, rcH X0 x0 N now S, 4, G⟩ K := by
  refine toIn 3 [] Tryz.func8 rfl (by kernel_rfl) (Nat.le_of_ble_eq_true rfl) (by decide) hG rfl hF ?_
  have hfind := r23find_fn N now S (by omega) e.f
  have e0 : decide (S.length = N) = decide ((S.length : Int) = N) := decide_eq_decide.2 (by omega)
  cases g1 : decide (w < 1) with
  | true =>
    have g1' := of_decide_eq_true g1
    have hnot := decide_eq_false (show ¬ (1 ≤ w ∧ w ≤ 4095) by omega)
    conv => whnf
    rw [g1]
    conv => whnf
    refine ⟨[], [], intD 2, rcH X0 x0 N now S, 4, ?_, hK _ _ (by unfold addS; simp only [hnot])⟩
    repeat' (first | exact trivial | exact .inl (DLe.refl _) | exact .inl (DLe.nil _ _) | (refine .inr ⟨rfl, _, ?_, rfl⟩; rfl) | exact rfl | exact Nat.zero_le _ | constructor)
    all_goals exact hX _ _ _
  | false =>
  have g1' := of_decide_eq_false g1
  cases g2 : decide (4095 < w) with
  | true =>
    have g2' := of_decide_eq_true g2
    have hnot := decide_eq_false (show ¬ (1 ≤ w ∧ w ≤ 4095) by omega)
    conv => whnf
    rw [g1]
    conv => whnf
    rw [g2]
    conv => whnf
    refine ⟨[], [], intD 2, rcH X0 x0 N now S, 4, ?_, hK _ _ (by unfold addS; simp only [hnot])⟩
    repeat' (first | exact trivial | exact .inl (DLe.refl _) | exact .inl (DLe.nil _ _) | (refine .inr ⟨rfl, _, ?_, rfl⟩; rfl) | exact rfl | exact Nat.zero_le _ | constructor)
    all_goals exact hX _ _ _
  | false =>
  have g2' := of_decide_eq_false g2
  have hw : IntKind.i64.wrap (now + w) = now + w := IntWalk.i64_in _ (by omega)
  have hyes := decide_eq_true (show 1 ≤ w ∧ w ≤ 4095 by omega)
  conv => whnf
  rw [g1]
  conv => whnf
  rw [g2]
  conv => whnf
  refine CallVC.look hfind rfl ?_
  rintro _ rfl
  unfold findI
  cases hq : S.findIdx? (isFl e.f) with
  | some q =>
    dsimp only
    conv => whnf
    refine ⟨[], [], intD 9, rcH X0 x0 N now S, 4, ?_, hK _ _ (by unfold addS; simp only [hyes, hq])⟩
    repeat' (first | exact trivial | exact .inl (DLe.refl _) | exact .inl (DLe.nil _ _) | (refine .inr ⟨rfl, _, ?_, rfl⟩; rfl) | exact rfl | exact Nat.zero_le _ | constructor)
    all_goals exact hX _ _ _
  | none =>
  dsimp only
  conv => whnf
  cases g0 : decide ((S.length : Int) = N) with
  | true =>
    conv => whnf
    refine ⟨[], [], intD 7, rcH X0 x0 N now S, 4, ?_, hK _ _ (by unfold addS; simp only [hyes, hq, e0, g0])⟩
    repeat' (first | exact trivial | exact .inl (DLe.refl _) | exact .inl (DLe.nil _ _) | (refine .inr ⟨rfl, _, ?_, rfl⟩; rfl) | exact rfl | exact Nat.zero_le _ | constructor)
    all_goals exact hX _ _ _
  | false =>
  conv => whnf
  rw [hw]
  refine ⟨Nat × Option Nat, fun g => ⟨[(9, intD g.1), (8, boolD g.2.isSome), (7, .grow 5), (4, .loc 4 0), (0, .loc 1 0)], (5, .grow En 39 13 enD (match g.2 with | none => S.take g.1 | some j => S.take j ++ ({ e with at_ := now + w } : En) :: (S.take g.1).drop j)) :: (4, .cells 39 (enD ({ e with at_ := now + w } : En))) :: rcH X0 x0 N now S, 6, (upto 3 0, 3)⟩,
    fun g => g.1 ≤ S.length ∧ match g.2 with
      | none => ∀ (m : Nat) u, m < g.1 → S[m]? = some u → ¬ flK e.f < flK u.f
      | some j => j ≤ g.1 ∧ InsAt e.f S j, fun g => S.length - g.1, ⟨(0, none), [], [5], ?_, Nat.zero_le _, fun m u h => absurd h (Nat.not_lt_zero _)⟩, ?_⟩
  · repeat' (first | exact trivial | exact .inl (DLe.refl _) | exact .inl (DLe.nil _ _) | (refine .inr ⟨rfl, _, ?_, rfl⟩; rfl) | exact rfl | exact Nat.zero_le _ | constructor)
    all_goals exact hX _ _ _
  · rintro ⟨k, jo⟩ ⟨hk, hC⟩
    dsimp only at hk hC
    cases g1 : decide ((k : Int) < S.length) with
    | true =>
      have hlt : k < S.length := by have := of_decide_eq_true g1; omega
      obtain ⟨x, hx⟩ : ∃ x, S[k]? = some x := ⟨_, List.getElem?_eq_getElem hlt⟩
      have hxf : FlOk x.f := hfl x (List.mem_of_getElem? hx)
      have htk : S.take (k + 1) = S.take k ++ [x] := by rw [List.take_add_one, hx]; rfl
      have hkl : (S.take k).length = k := by rw [List.length_take]; omega
      have hwk : IntKind.i64.wrap ((k : Int) + 1) = ((k + 1 : Nat) : Int) := wrap_next (show k < 1000 by omega) (by omega)
      cases jo with
      | none =>
        replace hC : ∀ (m : Nat) u, m < k → S[m]? = some u → ¬ flK e.f < flK u.f := hC
        conv => whnf
        rw [g1]
        conv => whnf
        refine ⟨rfl, ⟨Int.natCast_nonneg _, Int.ofNat_lt.2 hlt⟩, ?_⟩
        conv => whnf
        refine ⟨rfl, hlt, fun y hy => ?_⟩
        obtain rfl : y = x := by rw [Int.toNat_natCast, hx] at hy; injection hy with hy; exact hy.symm
        conv => whnf
        refine CallVC.pure (rcmp_fn hf hxf) rfl ?_
        rintro _ rfl
        conv => whnf
        rw [cmpI_lt]
        cases g2 : decide (flK e.f < flK y.f) with
        | true =>
          have hlt2 := of_decide_eq_true g2
          conv => whnf
          (refine ⟨Nat.le_of_ble_eq_true rfl, ?_⟩; conv => whnf)
          refine ⟨En, enD, S.take k ++ [({ e with at_ := now + w } : En)], (by rw [List.map_append]; rfl), fun _ => rfl, by simp only [List.length_append, List.length_cons, List.length_nil]; omega, by simp only [List.length_append, List.length_cons, List.length_nil]; omega, rfl, ?_⟩
          conv => whnf
          refine ⟨rfl, ⟨Int.natCast_nonneg _, Int.ofNat_lt.2 hlt⟩, ?_⟩
          conv => whnf
          refine ⟨rfl, hlt, fun z hz => ?_⟩
          obtain rfl : z = y := by rw [Int.toNat_natCast, hx] at hz; injection hz with hz; exact hz.symm
          conv => whnf
          (refine ⟨Nat.le_of_ble_eq_true rfl, ?_⟩; conv => whnf)
          refine ⟨En, enD, S.take k ++ ({ e with at_ := now + w } : En) :: (S.take (k + 1)).drop k, ?_, fun _ => rfl, ?_, ?_, rfl, ?_⟩
          · rw [htk, List.drop_left' hkl]; simp only [List.map_append, List.map_cons, List.map_nil, List.append_assoc]; rfl
          · rw [htk, List.drop_left' hkl, List.length_append]; simp only [List.length_cons, List.length_nil]; omega
          · rw [htk, List.drop_left' hkl, List.length_append]; simp only [List.length_cons, List.length_nil]; omega
          conv => whnf
          rw [hwk]
          refine ⟨(k + 1, some k), [(5, 7)], [], ?_, ⟨hlt, by show k ≤ k + 1; omega, ⟨by omega, hC, fun u hu => ?_⟩⟩, by show S.length - (k + 1) < S.length - k; omega⟩
          · repeat' (first | exact trivial | exact .inl (DLe.refl _) | exact .inl (DLe.nil _ _) | (refine .inr ⟨rfl, _, ?_, rfl⟩; rfl) | exact rfl | exact Nat.zero_le _ | constructor)
            all_goals exact hX _ _ _
          · rw [hx] at hu; injection hu with hu; subst hu; exact hlt2
        | false =>
          have hlt2 := of_decide_eq_false g2
          conv => whnf
          refine ⟨rfl, ⟨Int.natCast_nonneg _, Int.ofNat_lt.2 hlt⟩, ?_⟩
          conv => whnf
          refine ⟨rfl, hlt, fun z hz => ?_⟩
          obtain rfl : z = y := by rw [Int.toNat_natCast, hx] at hz; injection hz with hz; exact hz.symm
          conv => whnf
          (refine ⟨Nat.le_of_ble_eq_true rfl, ?_⟩; conv => whnf)
          refine ⟨En, enD, S.take (k + 1), ?_, fun _ => rfl, ?_, ?_, rfl, ?_⟩
          · rw [htk, List.map_append]; rfl
          · rw [List.length_take]; omega
          · show _ * 56 ≤ _; rw [List.length_take]; omega
          conv => whnf
          rw [hwk]
          refine ⟨(k + 1, none), [(5, 6)], [], ?_, ⟨hlt, fun m u hm hu => ?_⟩, by show S.length - (k + 1) < S.length - k; omega⟩
          · repeat' (first | exact trivial | exact .inl (DLe.refl _) | exact .inl (DLe.nil _ _) | (refine .inr ⟨rfl, _, ?_, rfl⟩; rfl) | exact rfl | exact Nat.zero_le _ | constructor)
            all_goals exact hX _ _ _
          · by_cases hmk : m = k
            · rw [hmk, hx] at hu; injection hu with hu; subst hu; exact hlt2
            · exact hC m u (by have : m < k + 1 := hm; omega) hu
      | some j =>
        obtain ⟨hjk, hI⟩ : j ≤ k ∧ InsAt e.f S j := hC
        have hdk : (S.take (k + 1)).drop j = (S.take k).drop j ++ [x] := by rw [htk, List.drop_append_of_le_length (by omega)]
        conv => whnf
        rw [g1]
        conv => whnf
        refine ⟨rfl, ⟨Int.natCast_nonneg _, Int.ofNat_lt.2 hlt⟩, ?_⟩
        conv => whnf
        refine ⟨rfl, hlt, fun z hz => ?_⟩
        obtain rfl : z = x := by rw [Int.toNat_natCast, hx] at hz; injection hz with hz; exact hz.symm
        conv => whnf
        (refine ⟨Nat.le_of_ble_eq_true rfl, ?_⟩; conv => whnf)
        refine ⟨En, enD, S.take j ++ ({ e with at_ := now + w } : En) :: (S.take (k + 1)).drop j, ?_, fun _ => rfl, ?_, ?_, rfl, ?_⟩
        · rw [hdk]; simp only [List.map_append, List.map_cons, List.map_nil, List.append_assoc, List.cons_append]; rfl
        · rw [List.length_append, List.length_cons, List.length_drop, List.length_take, List.length_take]; omega
        · show _ * 56 ≤ _; rw [List.length_append, List.length_cons, List.length_drop, List.length_take, List.length_take]; omega
        conv => whnf
        rw [hwk]
        refine ⟨(k + 1, some j), [(5, 6)], [], ?_, ⟨hlt, by show j ≤ k + 1; omega, hI⟩, by show S.length - (k + 1) < S.length - k; omega⟩
        repeat' (first | exact trivial | exact .inl (DLe.refl _) | exact .inl (DLe.nil _ _) | (refine .inr ⟨rfl, _, ?_, rfl⟩; rfl) | exact rfl | exact Nat.zero_le _ | constructor)
        all_goals exact hX _ _ _
    | false =>
      have hin : k = S.length := by have := of_decide_eq_false g1; omega
      subst hin
      cases jo with
      | none =>
        replace hC : ∀ (m : Nat) u, m < S.length → S[m]? = some u → ¬ flK e.f < flK u.f := hC
        have hI : InsAt e.f S S.length := ⟨Nat.le_refl _, hC, fun u hu => by rw [List.getElem?_eq_none (Nat.le_refl _)] at hu; cases hu⟩
        have hj := (jOf_at e.f S).uniq hI
        conv => whnf
        rw [g1]
        conv => whnf
        (refine ⟨Nat.le_of_ble_eq_true rfl, ?_⟩; conv => whnf)
        refine ⟨En, enD, S.take S.length ++ ({ e with at_ := now + w } : En) :: S.drop S.length, ?_, fun _ => rfl, ?_, ?_, rfl, ?_⟩
        · rw [List.drop_length, List.map_append]; rfl
        · rw [List.drop_length, List.length_append, List.length_take]; simp only [List.length_cons, List.length_nil]; omega
        · rw [List.drop_length, List.length_append, List.length_take]; simp only [List.length_cons, List.length_nil]; omega
        conv => whnf
        refine ⟨[(3, 6)], [], intD 0, rcH X0 x0 N now (S.take S.length ++ ({ e with at_ := now + w } : En) :: S.drop S.length), 4, ?_, hK _ _ (by unfold addS; simp only [hyes, hq, e0, g0, hj])⟩
        repeat' (first | exact trivial | exact .inl (DLe.refl _) | exact .inl (DLe.nil _ _) | (refine .inr ⟨rfl, _, ?_, rfl⟩; rfl) | exact rfl | exact Nat.zero_le _ | constructor)
        all_goals exact hX _ _ _
      | some j =>
        obtain ⟨hjk, hI⟩ : j ≤ S.length ∧ InsAt e.f S j := hC
        have hj := (jOf_at e.f S).uniq hI
        conv => whnf
        rw [g1]
        rw [List.take_length]
        conv => whnf
        refine ⟨[(3, 5)], [], intD 0, rcH X0 x0 N now (S.take j ++ ({ e with at_ := now + w } : En) :: S.drop j), 4, ?_, hK _ _ (by unfold addS; simp only [hyes, hq, e0, g0, hj])⟩
        repeat' (first | exact trivial | exact .inl (DLe.refl _) | exact .inl (DLe.nil _ _) | (refine .inr ⟨rfl, _, ?_, rfl⟩; rfl) | exact rfl | exact Nat.zero_le _ | constructor)
        all_goals exact hX _ _ _

set_option maxHeartbeats 4000000 in
theorem rturn_vc (F : List (Nat × D)) (G : List Nat × Nat) (X0 : LO) (x0 : Tde) (N : Nat) (now : Int) (S : List En) (n0 : Int) (hS : S.length ≤ 300) (hn : 0 ≤ now ∧ now ≤ 1099511400000) (hlim : ∀ x, x ∈ S → now < x.at_) {K : D → St → Prop} (hF : F.all (fun p => cutOk 6 3 p.2) = true) (hG : Nat.ble G.2 3 = true) (hX : ∀ r z n, LOLe r z n X0 X0)
    (hK : K (.grow 4) ⟨F, (4, .grow En 39 13 enD (dueS S now (turnN n0))) :: rcH X0 x0 N (now + turnN n0) (S.filter fun x => decide (now + (turnN n0 : Int) < x.at_)), 5, G⟩) : CallVC Tryz.prog false 15 [.loc 1 0, intD n0] ⟨F, rcH X0 x0 N now S, 4, G⟩ K := by
  refine toIn 3 [] Tryz.func15 rfl (by kernel_rfl) (Nat.le_of_ble_eq_true rfl) (by decide) hG rfl hF ?_
  have hin := in_fn n0 0 4095
  change Fn _ _ _ (fun d => d = intD (clampI n0)) at hin
  rw [← clampT] at hin
  have hc := (turnN_in n0).2
  rw [← (turnN_in n0).1] at hc
  generalize turnN n0 = c at *
  conv => whnf
  refine CallVC.pure hin rfl ?_
  rintro _ rfl
  conv => whnf
  refine ⟨TR, fun t => ⟨[(5, .grow 4), (1, intD t.m), (0, .loc 1 0)], (4, .grow En 39 13 enD t.out) :: rcH X0 x0 N t.nw t.R, 5, (upto 3 0, 3)⟩,
    fun t => t.i ≤ c ∧ t.nw = now + t.i ∧ t.m = c - t.i ∧ t.R = S.filter (fun x => decide (now + (t.i : Int) < x.at_)) ∧ t.out = dueS S now t.i, fun t => c - t.i,
    ⟨⟨0, now, c, S, []⟩, [], [4], ?_, Nat.zero_le _, (Int.add_zero _).symm, (Int.sub_zero _).symm, (List.filter_eq_self.2 fun x hx => decide_eq_true (by have := hlim x hx; show now + ((0 : Nat) : Int) < _; omega)).symm, rfl⟩, ?_⟩
  · repeat' (first | exact trivial | exact .inl (DLe.refl _) | exact .inl (DLe.nil _ _) | (refine .inr ⟨rfl, _, ?_, rfl⟩; rfl) | exact rfl | exact Nat.zero_le _ | constructor)
    all_goals exact hX _ _ _
  rintro ⟨i, nw, m, R, out⟩ ⟨hi, hnw, hm, hR, hout⟩
  dsimp only at hi hnw hm hR hout
  have hRl : R.length ≤ S.length := by rw [hR]; exact List.length_filter_le _ _
  have hol : out.length ≤ S.length := by rw [hout, (dueS_perm hlim i).length_eq]; exact List.length_filter_le _ _
  obtain ⟨st1, st2⟩ := due_step S now i hlim
  rw [← hout, ← hR, ← hnw] at st1
  rw [← hR, ← hnw] at st2
  have hw : IntKind.i64.wrap (nw + 1) = nw + 1 := IntWalk.i64_in _ (by omega)
  have hwm : IntKind.i64.wrap (m - 1) = m - 1 := IntWalk.i64_in _ (by omega)
  cases g1 : decide (0 < m) with
  | true =>
    have g1' := of_decide_eq_true g1
    conv => whnf
    rw [g1]
    conv => whnf
    rw [hw]
    refine ⟨Nat, fun k => ⟨[(7, intD k), (6, .grow 5), (5, .grow 4), (1, intD m), (0, .loc 1 0)], (5, .grow En 39 13 enD ((R.take k).filter fun x => !decide (x.at_ ≤ nw + 1))) :: (4, .grow En 39 13 enD (out ++ (R.take k).filter fun x => decide (x.at_ ≤ nw + 1))) :: rcH X0 x0 N (nw + 1) R, 6, (upto 3 0, 3)⟩, fun k => k ≤ R.length, fun k => R.length - k, ⟨0, [], [5], ?_, Nat.zero_le _⟩, ?_⟩
    · show Cover _ _ _ ⟨_, _ :: (4, .grow En _ 13 enD (out ++ [])) :: _, _, _⟩
      rw [List.append_nil]
      repeat' (first | exact trivial | exact .inl (DLe.refl _) | exact .inl (DLe.nil _ _) | (refine .inr ⟨rfl, _, ?_, rfl⟩; rfl) | exact rfl | exact Nat.zero_le _ | constructor)
      all_goals exact hX _ _ _
    · intro k hk
      replace hk : k ≤ R.length := hk
      have hl1 : ((R.take k).filter fun x => decide (x.at_ ≤ nw + 1)).length ≤ k := Nat.le_trans (List.length_filter_le _ _) (by rw [List.length_take]; omega)
      have hl2 : ((R.take k).filter fun x => !decide (x.at_ ≤ nw + 1)).length ≤ k := Nat.le_trans (List.length_filter_le _ _) (by rw [List.length_take]; omega)
      cases q1 : decide ((k : Int) < R.length) with
      | true =>
        have hlt : k < R.length := by have := of_decide_eq_true q1; omega
        obtain ⟨x, hx⟩ : ∃ x, R[k]? = some x := ⟨_, List.getElem?_eq_getElem hlt⟩
        have s1 := part_snoc (p := fun x => decide (x.at_ ≤ nw + 1)) hx
        have s2 := part_snoc (p := fun x => !decide (x.at_ ≤ nw + 1)) hx
        have hwk : IntKind.i64.wrap ((k : Int) + 1) = ((k + 1 : Nat) : Int) := wrap_next (show k < 1000 by omega) (by omega)
        conv => whnf
        rw [q1]
        conv => whnf
        refine ⟨rfl, ⟨Int.natCast_nonneg _, Int.ofNat_lt.2 hlt⟩, ?_⟩
        conv => whnf
        refine ⟨rfl, hlt, fun y hy => ?_⟩
        obtain rfl : y = x := by rw [Int.toNat_natCast, hx] at hy; injection hy with hy; exact hy.symm
        conv => whnf
        cases q2 : decide (y.at_ ≤ nw + 1) with
        | true =>
          replace s1 : (R.take (k + 1)).filter (fun x => decide (x.at_ ≤ nw + 1)) = (R.take k).filter (fun x => decide (x.at_ ≤ nw + 1)) ++ [y] := by rw [s1, q2]
          replace s2 : (R.take (k + 1)).filter (fun x => !decide (x.at_ ≤ nw + 1)) = (R.take k).filter (fun x => !decide (x.at_ ≤ nw + 1)) := by rw [s2, q2]; exact List.append_nil _
          conv => whnf
          refine ⟨rfl, ⟨Int.natCast_nonneg _, Int.ofNat_lt.2 hlt⟩, ?_⟩
          conv => whnf
          refine ⟨rfl, hlt, fun z hz => ?_⟩
          obtain rfl : z = y := by rw [Int.toNat_natCast, hx] at hz; injection hz with hz; exact hz.symm
          conv => whnf
          (refine ⟨Nat.le_of_ble_eq_true rfl, ?_⟩; conv => whnf)
          refine ⟨En, enD, out ++ (R.take k).filter (fun x => decide (x.at_ ≤ nw + 1)) ++ [z], (by rw [List.map_append]; rfl), fun _ => rfl, by simp only [List.length_append, List.length_cons, List.length_nil]; omega, by simp only [List.length_append, List.length_cons, List.length_nil]; omega, rfl, ?_⟩
          rw [List.append_assoc, ← s1, ← s2]
          conv => whnf
          rw [hwk]
          refine ⟨k + 1, [(4, 6)], [], ?_, hlt, by show R.length - (k + 1) < R.length - k; omega⟩
          repeat' (first | exact trivial | exact .inl (DLe.refl _) | exact .inl (DLe.nil _ _) | (refine .inr ⟨rfl, _, ?_, rfl⟩; rfl) | exact rfl | exact Nat.zero_le _ | constructor)
          all_goals exact hX _ _ _
        | false =>
          replace s1 : (R.take (k + 1)).filter (fun x => decide (x.at_ ≤ nw + 1)) = (R.take k).filter (fun x => decide (x.at_ ≤ nw + 1)) := by rw [s1, q2]; exact List.append_nil _
          replace s2 : (R.take (k + 1)).filter (fun x => !decide (x.at_ ≤ nw + 1)) = (R.take k).filter (fun x => !decide (x.at_ ≤ nw + 1)) ++ [y] := by rw [s2, q2]; rfl
          conv => whnf
          refine ⟨rfl, ⟨Int.natCast_nonneg _, Int.ofNat_lt.2 hlt⟩, ?_⟩
          conv => whnf
          refine ⟨rfl, hlt, fun z hz => ?_⟩
          obtain rfl : z = y := by rw [Int.toNat_natCast, hx] at hz; injection hz with hz; exact hz.symm
          conv => whnf
          (refine ⟨Nat.le_of_ble_eq_true rfl, ?_⟩; conv => whnf)
          refine ⟨En, enD, (R.take k).filter (fun x => !decide (x.at_ ≤ nw + 1)) ++ [z], (by rw [List.map_append]; rfl), fun _ => rfl, by simp only [List.length_append, List.length_cons, List.length_nil]; omega, by simp only [List.length_append, List.length_cons, List.length_nil]; omega, rfl, ?_⟩
          rw [← s1, ← s2]
          conv => whnf
          rw [hwk]
          refine ⟨k + 1, [(5, 6)], [], ?_, hlt, by show R.length - (k + 1) < R.length - k; omega⟩
          repeat' (first | exact trivial | exact .inl (DLe.refl _) | exact .inl (DLe.nil _ _) | (refine .inr ⟨rfl, _, ?_, rfl⟩; rfl) | exact rfl | exact Nat.zero_le _ | constructor)
          all_goals exact hX _ _ _
      | false =>
        have hin : k = R.length := by have := of_decide_eq_false q1; omega
        have htk : R.take k = R := List.take_of_length_le (by omega)
        conv => whnf
        rw [q1]
        conv => whnf
        rw [hwm]
        refine ⟨⟨i + 1, nw + 1, m - 1, (R.take k).filter (fun x => !decide (x.at_ ≤ nw + 1)), out ++ (R.take k).filter (fun x => decide (x.at_ ≤ nw + 1))⟩, [(3, 5)], [], ?_, ⟨by show i + 1 ≤ c; omega, by show nw + 1 = now + ((i + 1 : Nat) : Int); omega, by show m - 1 = (c : Int) - ((i + 1 : Nat) : Int); omega, by rw [htk]; exact st2.symm, by rw [htk]; exact st1.symm⟩, by show c - (i + 1) < c - i; omega⟩
        repeat' (first | exact trivial | exact .inl (DLe.refl _) | exact .inl (DLe.nil _ _) | (refine .inr ⟨rfl, _, ?_, rfl⟩; rfl) | exact rfl | exact Nat.zero_le _ | constructor)
        all_goals exact hX _ _ _
  | false =>
    have g1' := of_decide_eq_false g1
    obtain rfl : i = c := by omega
    rw [← hout, ← hR, ← hnw] at hK
    conv => whnf
    rw [g1]
    conv => whnf
    refine ⟨[], [], .grow 4, (4, .grow En 39 13 enD out) :: rcH X0 x0 N nw R, 5, ?_, hK⟩
    repeat' (first | exact trivial | exact .inl (DLe.refl _) | exact .inl (DLe.nil _ _) | (refine .inr ⟨rfl, _, ?_, rfl⟩; rfl) | exact rfl | exact Nat.zero_le _ | constructor)
    all_goals exact hX _ _ _

end Go.Proofs.YtcbpdjikdohegaaGreat.V
