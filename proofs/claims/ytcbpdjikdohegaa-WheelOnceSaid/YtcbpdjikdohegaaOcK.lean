/-
  The law WheelOnce, by value. No condition.
-/
import Derived.Test.YtcbpdjikdohegaaWkK
import Derived.Test.YtcbpdjikdohegaaVpK
import Derived.Test.YtcbpdjikdohegaaObK
namespace Go.Proofs.Ytcbpdjikdohegaa.V
open Go.RowKit
attribute [local irreducible] Fn FnN OpVC Ob RowFn

/-- A deed. -/
structure De where
  kind : Int
  id : Int
  at_ : Int
def deD (x : De) : List D := [intD x.kind, intD x.id, intD x.at_]
abbrev rowsE (L : List De) : D := .rows De 3 deD L
/-- How far ahead an alarm is set. -/
def inC (n : Int) : Int := match decide (n < -3) with
  | true => -3
  | false => match decide (5000 < n) with
    | true => 5000
    | false => n
theorem inC_in (n : Int) : -3 ≤ inC n ∧ inC n ≤ 5000 := by
  unfold inC
  split
  · omega
  · rename_i h1; have := of_decide_eq_false h1
    split
    · omega
    · rename_i h2; have := of_decide_eq_false h2; omega
/-- Where the law stands. -/
structure OS where
  k : Nat
  X : WS
  c : Nat
  V : List Al
structure OInv (l : List De) (g : OS) : Prop where
  k1 : g.k ≤ l.length
  k2 : g.k ≤ 40
  inv : WInv g.X.now g.X.R g.X.M g.X.L
  so : Sorted g.X.L
  len : g.X.L.length ≤ g.k
  lo : g.X.now ≤ 1073741824 + 4095 * g.k
  due : ∀ a, a ∈ g.X.L → a.at_ ≤ 1073741824 + 4095 * (g.k + 1)
  perm : g.V.Perm g.X.L

set_option maxHeartbeats 40000000 in
theorem once_fn (n0 : Int) (l : List De) : Fn Try.prog 6 [intD n0, rowsE l] fun d => d = boolD true := by
  refine fnOf [(27, [1001, 0, 1, 2, 4, 5, 7, 8])] Try.func6 rfl (by kernel_rfl) (Nat.le_of_ble_eq_true rfl) ?_
  obtain ⟨hn0, hn1⟩ := newN_in n0
  have hnm := newN_min n0
  conv => whnf
  refine goIn [] Try.func20 rfl (by kernel_rfl) (Nat.le_of_ble_eq_true rfl) ?_
  conv => whnf
  refine op_makeMap rfl ?_
  conv => whnf
  refine ⟨OS, fun g => ⟨[(7, intD g.k), (6, .grow 2), (5, .loc 0 0), (1, rowsE l)], WH g.X.now g.X.R g.X.T g.X.U g.X.M g.c (.grow Al 58 2 alD g.V), 53, ([], 0)⟩,
    OInv l, fun g => l.length - g.k, ⟨⟨0, ⟨newN n0, fun _ => [], [], [], [], []⟩, 0, []⟩, [(0, 1), (1, 0)], [2, 3, 4, 5, 6, 7, 8, 9, 10, 11, 12, 13, 14, 15, 16, 17, 18, 19, 20, 21, 22, 23, 24, 25, 26, 27, 28, 29, 30, 31, 32, 33, 34, 35, 36, 37, 38, 39, 40, 41, 42, 43, 44, 45, 46, 47, 48, 49, 50, 51, 52], ?_, ⟨Nat.zero_le _, Nat.zero_le _, winv_new _ hn0, .nil, Nat.le_refl _, by show newN n0 ≤ 1073741824 + 4095 * (0 : Int); omega, (fun _ h => by cases h), .refl _⟩⟩, ?_⟩
  · repeat' (first | exact trivial | exact .inl (DLe.refl _) | exact .inl (DLe.nil _ _) | (refine .inr ⟨rfl, _, ?_, rfl⟩; rfl) | exact rfl | exact Nat.zero_le _ | constructor)
    all_goals (rw [← hnm]; exact DLe.refl _)
  · rintro ⟨k, ⟨now, R, T, U, M, L⟩, c, V⟩ ⟨hk1, hk2, hi, hs, hL, hlo, hdue, hV⟩
    dsimp only at hk1 hk2 hi hs hL hlo hdue hV
    have hp0 := hi.n0
    have hVl : V.length ≤ k := by rw [hV.length_eq]; exact hL
    conv => whnf
    cases g1 : decide ((k : Int) < l.length) with
    | false =>
      conv => whnf
      refine CallVC.pure lives_fn rfl ?_
      rintro _ rfl
      conv => whnf
    | true =>
    have hlt := of_decide_eq_true g1
    conv => whnf
    cases g2 : decide ((k : Int) < 40) with
    | false =>
      conv => whnf
      refine CallVC.pure lives_fn rfl ?_
      rintro _ rfl
      conv => whnf
    | true =>
    have hlt40 := of_decide_eq_true g2
    obtain ⟨x, hx⟩ : ∃ x, l[k]? = some x := ⟨l[k]'(by omega), List.getElem?_eq_getElem _⟩
    have hwk : IntKind.i64.wrap ((k : Int) + 1) = ((k + 1 : Nat) : Int) := wrap_next (show k < 100 by omega) (by omega)
    conv => whnf
    refine ⟨rfl, ⟨by omega, hlt⟩, each_one hx ?_⟩
    conv => whnf
    cases hk0 : decide (x.kind = 0) with
    | true =>
      have hin := in_fn x.at_ (-3) 5000
      change Fn _ _ _ (fun d => d = intD (inC x.at_)) at hin
      obtain ⟨c0, c1⟩ := inC_in x.at_
      have hw : IntKind.i64.wrap (now + inC x.at_) = now + inC x.at_ := IntWalk.i64_in _ (by omega)
      generalize hcx : inC x.at_ = cx at *
      conv => whnf
      refine ⟨Unit, fun _ => ⟨[(9, .loc 53 0), (7, intD k), (6, .grow 2), (5, .loc 0 0), (1, rowsE l)], (53, .cells 58 (alD ⟨x.id, now + cx⟩)) :: WH now R T U M c (.grow Al 58 2 alD (V)), 54, ([], 0)⟩, ?_, fun _ => ?_⟩
      · conv => whnf
        refine ⟨?_, ?_, trivial⟩
        · conv => whnf
          refine CallVC.look (now_rd now _) rfl ?_
          rintro _ rfl
          conv => whnf
          refine ⟨?_, ?_, trivial⟩
          · conv => whnf
            refine CallVC.pure hin rfl ?_
            rintro _ rfl
            conv => whnf
            refine ⟨?_, trivial⟩
            · conv => whnf
              refine ⟨?_, trivial⟩
              · conv => whnf
                rw [hw]
                refine ⟨(), [(53, 54)], [], ⟨?_, ⟨?_, coverH_self (m := 53) rfl rfl rfl rfl rfl fun i hi => (by repeat rw [lget_ne _ _ (by omega)])⟩, rfl, Nat.zero_le _, rfl, rfl⟩⟩
                · repeat' (first | exact trivial | exact .inl (DLe.refl _) | exact .inl (DLe.nil _ _) | (refine .inr ⟨rfl, _, ?_, rfl⟩; rfl) | exact rfl | exact Nat.zero_le _ | constructor)
                · repeat' (first | exact trivial | exact .inl (DLe.refl _) | exact .inl (DLe.nil _ _) | (refine .inr ⟨rfl, _, ?_, rfl⟩; rfl) | exact rfl | exact Nat.zero_le _ | constructor)
          · conv => whnf
            refine ⟨?_, trivial⟩
            · conv => whnf
              refine CallVC.pure hin rfl ?_
              rintro _ rfl
              conv => whnf
              refine ⟨?_, trivial⟩
              · conv => whnf
                rw [hw]
                refine ⟨(), [(53, 54)], [], ⟨?_, ⟨?_, coverH_self (m := 53) rfl rfl rfl rfl rfl fun i hi => (by repeat rw [lget_ne _ _ (by omega)])⟩, rfl, Nat.zero_le _, rfl, rfl⟩⟩
                · repeat' (first | exact trivial | exact .inl (DLe.refl _) | exact .inl (DLe.nil _ _) | (refine .inr ⟨rfl, _, ?_, rfl⟩; rfl) | exact rfl | exact Nat.zero_le _ | constructor)
                · repeat' (first | exact trivial | exact .inl (DLe.refl _) | exact .inl (DLe.nil _ _) | (refine .inr ⟨rfl, _, ?_, rfl⟩; rfl) | exact rfl | exact Nat.zero_le _ | constructor)
        · conv => whnf
          refine ⟨?_, trivial⟩
          · conv => whnf
            refine CallVC.look (now_rd now _) rfl ?_
            rintro _ rfl
            conv => whnf
            refine ⟨?_, trivial⟩
            · conv => whnf
              refine CallVC.pure hin rfl ?_
              rintro _ rfl
              conv => whnf
              refine ⟨?_, trivial⟩
              · conv => whnf
                rw [hw]
                refine ⟨(), [(53, 54)], [], ⟨?_, ⟨?_, coverH_self (m := 53) rfl rfl rfl rfl rfl fun i hi => (by repeat rw [lget_ne _ _ (by omega)])⟩, rfl, Nat.zero_le _, rfl, rfl⟩⟩
                · repeat' (first | exact trivial | exact .inl (DLe.refl _) | exact .inl (DLe.nil _ _) | (refine .inr ⟨rfl, _, ?_, rfl⟩; rfl) | exact rfl | exact Nat.zero_le _ | constructor)
                · repeat' (first | exact trivial | exact .inl (DLe.refl _) | exact .inl (DLe.nil _ _) | (refine .inr ⟨rfl, _, ?_, rfl⟩; rfl) | exact rfl | exact Nat.zero_le _ | constructor)
      conv => whnf
      refine CallVC.cov (args1 := [.loc 0 0, .agg (alD ⟨x.id, now + cx⟩)]) [] [] ⟨(9, .loc 53 0) :: [(7, intD k), (6, .grow 2), (5, .loc 0 0), (1, rowsE l)], (53, .cells 58 (alD ⟨x.id, now + cx⟩)) :: WH now R T U M c (.grow Al 58 2 alD (V)), 54, ([], 0)⟩ ?_ ?_ (CallVC.frame rfl rfl rfl rfl rfl rfl rfl (set_u _ now R T U M c _ _ ⟨x.id, now + cx⟩ (by rfl) rfl (fun _ _ _ => rfl) ⟨hp0, by omega⟩ (by show now + cx ≤ _; omega) (fun j => by have := hi.rows_len j; omega) ?_))
      · repeat' (first | exact trivial | exact .inl (DLe.refl _) | exact .inl (DLe.nil _ _) | (refine .inr ⟨rfl, _, ?_, rfl⟩; rfl) | exact rfl | exact Nat.zero_le _ | constructor)
      · repeat' (first | exact trivial | exact .inl (DLe.refl _) | exact .inl (DLe.nil _ _) | (refine .inr ⟨rfl, _, ?_, rfl⟩; rfl) | exact rfl | exact Nat.zero_le _ | constructor)
      have hqe := setq_eq hi ⟨x.id, now + cx⟩
      have hi2 := hi.setu ⟨x.id, now + cx⟩ c
      have hs2 : Sorted (setL now L ⟨x.id, now + cx⟩) := setL_sorted hs
      have hL2 := setL_len now L ⟨x.id, now + cx⟩
      have hd2 : ∀ y, y ∈ setL now L ⟨x.id, now + cx⟩ → y.at_ ≤ 1073741824 + 4095 * (((k + 1 : Nat) : Int) + 1) := fun y hy => by
        rcases setL_mem hy with h | ⟨h, h'⟩
        · have := hdue y h; omega
        · rw [h]; have h' : now + cx ≤ now + 4095 := h'; show now + cx ≤ _; omega
      have hsl : setL now L ⟨x.id, now + cx⟩ = match setW now M ⟨x.id, now + cx⟩ with
          | true => insF ⟨x.id, now + cx⟩ L
          | false => L := by unfold setL; rw [hqe]; cases setW now M ⟨x.id, now + cx⟩ <;> rfl
      cases hsw : setW now M ⟨x.id, now + cx⟩ with
      | true =>
        have hV2 : (V ++ [(⟨x.id, now + cx⟩ : Al)]).Perm (setL now L ⟨x.id, now + cx⟩) := by
          rw [hsl, hsw]
          exact (List.perm_append_comm.trans (hV.cons _)).trans (insF_perm _ L).symm
        conv => whnf
        (refine ⟨Nat.le_of_ble_eq_true rfl, ?_⟩; conv => whnf)
        refine ⟨Al, alD, V ++ [⟨x.id, now + cx⟩], (by rw [List.map_append]; rfl), fun _ => rfl, by simp only [List.length_append, List.length_cons, List.length_nil]; omega, by simp only [List.length_append, List.length_cons, List.length_nil]; omega, rfl, ?_⟩
        conv => whnf
        refine CallVC.cov (args1 := [.loc 0 0]) [(2, 54)] [] ⟨[(7, intD k), (6, .grow 2), (5, .loc 0 0), (1, rowsE l)], WH now (setRr now R M ⟨x.id, now + cx⟩) T U (setMm now M ⟨x.id, now + cx⟩ c) (setCc now M ⟨x.id, now + cx⟩ c) (.grow Al 58 2 alD (V ++ [(⟨x.id, now + cx⟩ : Al)])), 53, ([], 0)⟩ ?_ ?_ (len_rd now (setRr now R M ⟨x.id, now + cx⟩) T U (setMm now M ⟨x.id, now + cx⟩ c) (setCc now M ⟨x.id, now + cx⟩ c) _ _ _ rfl rfl (fun _ _ _ => rfl) ?_)
        · repeat' (first | exact trivial | exact .inl (DLe.refl _) | exact .inl (DLe.nil _ _) | (refine .inr ⟨rfl, _, ?_, rfl⟩; rfl) | exact rfl | exact Nat.zero_le _ | constructor)
        · repeat' (first | exact trivial | exact .inl (DLe.refl _) | exact .inl (DLe.nil _ _) | (refine .inr ⟨rfl, _, ?_, rfl⟩; rfl) | exact rfl | exact Nat.zero_le _ | constructor)
        conv => whnf
        refine Fork.intro (fun h => absurd (h.symm.trans (show (!decide ((((setMm now M ⟨x.id, now + cx⟩ c)).length : Int) = (V ++ [(⟨x.id, now + cx⟩ : Al)]).length)) = false by rw [hi2.len, hV2.length_eq]; simp)) (by decide)) (fun _ => ?_)
        conv => whnf
        rw [hwk]
        refine ⟨⟨k + 1, ⟨now, (setRr now R M ⟨x.id, now + cx⟩), T, U, (setMm now M ⟨x.id, now + cx⟩ c), setL now L ⟨x.id, now + cx⟩⟩, (setCc now M ⟨x.id, now + cx⟩ c), V ++ [(⟨x.id, now + cx⟩ : Al)]⟩, [], [], ⟨?_, coverH_self (m := 53) rfl rfl rfl rfl rfl fun _ _ => rfl, rfl, Nat.zero_le _, rfl, rfl⟩, ⟨by show k + 1 ≤ _; omega, by show k + 1 ≤ 40; omega, hi2, hs2, by show (setL now L ⟨x.id, now + cx⟩).length ≤ k + 1; omega, by show now ≤ 1073741824 + 4095 * ((k + 1 : Nat) : Int); omega, hd2, hV2⟩, by show l.length - (k + 1) < l.length - k; omega⟩
        repeat' (first | exact trivial | exact .inl (DLe.refl _) | exact .inl (DLe.nil _ _) | (refine .inr ⟨rfl, _, ?_, rfl⟩; rfl) | exact rfl | exact Nat.zero_le _ | constructor)
      | false =>
        have hV2 : V.Perm (setL now L ⟨x.id, now + cx⟩) := by
          rw [hsl, hsw]
          exact hV
        conv => whnf
        refine CallVC.cov (args1 := [.loc 0 0]) [] [] ⟨[(7, intD k), (6, .grow 2), (5, .loc 0 0), (1, rowsE l)], WH now (setRr now R M ⟨x.id, now + cx⟩) T U (setMm now M ⟨x.id, now + cx⟩ c) (setCc now M ⟨x.id, now + cx⟩ c) (.grow Al 58 2 alD (V)), 53, ([], 0)⟩ ?_ ?_ (len_rd now (setRr now R M ⟨x.id, now + cx⟩) T U (setMm now M ⟨x.id, now + cx⟩ c) (setCc now M ⟨x.id, now + cx⟩ c) _ _ _ rfl rfl (fun _ _ _ => rfl) ?_)
        · repeat' (first | exact trivial | exact .inl (DLe.refl _) | exact .inl (DLe.nil _ _) | (refine .inr ⟨rfl, _, ?_, rfl⟩; rfl) | exact rfl | exact Nat.zero_le _ | constructor)
        · repeat' (first | exact trivial | exact .inl (DLe.refl _) | exact .inl (DLe.nil _ _) | (refine .inr ⟨rfl, _, ?_, rfl⟩; rfl) | exact rfl | exact Nat.zero_le _ | constructor)
        conv => whnf
        refine Fork.intro (fun h => absurd (h.symm.trans (show (!decide ((((setMm now M ⟨x.id, now + cx⟩ c)).length : Int) = (V).length)) = false by rw [hi2.len, hV2.length_eq]; simp)) (by decide)) (fun _ => ?_)
        conv => whnf
        rw [hwk]
        refine ⟨⟨k + 1, ⟨now, (setRr now R M ⟨x.id, now + cx⟩), T, U, (setMm now M ⟨x.id, now + cx⟩ c), setL now L ⟨x.id, now + cx⟩⟩, (setCc now M ⟨x.id, now + cx⟩ c), V⟩, [], [], ⟨?_, coverH_self (m := 53) rfl rfl rfl rfl rfl fun _ _ => rfl, rfl, Nat.zero_le _, rfl, rfl⟩, ⟨by show k + 1 ≤ _; omega, by show k + 1 ≤ 40; omega, hi2, hs2, by show (setL now L ⟨x.id, now + cx⟩).length ≤ k + 1; omega, by show now ≤ 1073741824 + 4095 * ((k + 1 : Nat) : Int); omega, hd2, hV2⟩, by show l.length - (k + 1) < l.length - k; omega⟩
        repeat' (first | exact trivial | exact .inl (DLe.refl _) | exact .inl (DLe.nil _ _) | (refine .inr ⟨rfl, _, ?_, rfl⟩; rfl) | exact rfl | exact Nat.zero_le _ | constructor)
    | false =>
      conv => whnf
      cases hk1' : decide (x.kind = 1) with
      | true =>
        have hi2 := hi.stop x.id
        have hs2 : Sorted (outOf x.id L) := List.Pairwise.sublist List.filter_sublist hs
        have hL2 := outOf_le x.id L
        have hd2 : ∀ y, y ∈ outOf x.id L → y.at_ ≤ 1073741824 + 4095 * (((k + 1 : Nat) : Int) + 1) := fun y hy => by
          have := hdue y (List.mem_filter.1 hy).1; omega
        have hV2 : (outOf x.id V).Perm (outOf x.id L) := outOf_perm hV
        have hst : (!(L.any (isId x.id) == decide (0 ≤ findI (isId x.id) V))) = false := by rw [findI_nonneg, any_perm hV]; simp
        conv => whnf
        refine CallVC.snap (place_fn V x.id (by omega)) ?_
        rintro _ rfl
        refine ⟨rfl, ?_⟩
        conv => whnf
        refine CallVC.cov (args1 := [.loc 0 0, intD x.id]) [] [] ⟨[(10, intD (findI (isId x.id) V)), (7, intD k), (6, .grow 2), (5, .loc 0 0), (1, rowsE l)], WH now R T U M c (.grow Al 58 2 alD (V)), 53, ([], 0)⟩ ?_ ?_ (stop_u _ now R T U M c _ _ x.id L (by rfl) rfl (fun _ _ _ => rfl) hi (by omega) ?_)
        · repeat' (first | exact trivial | exact .inl (DLe.refl _) | exact .inl (DLe.nil _ _) | (refine .inr ⟨rfl, _, ?_, rfl⟩; rfl) | exact rfl | exact Nat.zero_le _ | constructor)
        · repeat' (first | exact trivial | exact .inl (DLe.refl _) | exact .inl (DLe.nil _ _) | (refine .inr ⟨rfl, _, ?_, rfl⟩; rfl) | exact rfl | exact Nat.zero_le _ | constructor)
        conv => whnf
        refine Fork.intro (fun h => absurd (h.symm.trans hst) (by decide)) (fun _ => ?_)
        conv => whnf
        refine CallVC.cov (args1 := [.grow 2, intD (findI (isId x.id) V)]) [] [] ⟨[(7, intD k), (6, .grow 2), (5, .loc 0 0), (1, rowsE l)], WH now (fun j => outOf x.id (R j)) T U (mdel x.id M) c (.grow Al 58 2 alD (V)), 53, ([], 0)⟩ ?_ ?_ (without_vc _ now _ T U _ c V x.id _ rfl (Keys.perm hi.keys hV) (by omega) rfl ?_)
        · repeat' (first | exact trivial | exact .inl (DLe.refl _) | exact .inl (DLe.nil _ _) | (refine .inr ⟨rfl, _, ?_, rfl⟩; rfl) | exact rfl | exact Nat.zero_le _ | constructor)
        · repeat' (first | exact trivial | exact .inl (DLe.refl _) | exact .inl (DLe.nil _ _) | (refine .inr ⟨rfl, _, ?_, rfl⟩; rfl) | exact rfl | exact Nat.zero_le _ | constructor)
        conv => whnf
        refine CallVC.cov (args1 := [.loc 0 0]) [(2, 53)] [] ⟨[(7, intD k), (6, .grow 2), (5, .loc 0 0), (1, rowsE l)], WH now (fun j => outOf x.id (R j)) T U (mdel x.id M) c (.grow Al 58 2 alD (outOf x.id V)), 53, ([], 0)⟩ ?_ ?_ (len_rd now (fun j => outOf x.id (R j)) T U (mdel x.id M) c _ _ _ rfl rfl (fun _ _ _ => rfl) ?_)
        · repeat' (first | exact trivial | exact .inl (DLe.refl _) | exact .inl (DLe.nil _ _) | (refine .inr ⟨rfl, _, ?_, rfl⟩; rfl) | exact rfl | exact Nat.zero_le _ | constructor)
        · repeat' (first | exact trivial | exact .inl (DLe.refl _) | exact .inl (DLe.nil _ _) | (refine .inr ⟨rfl, _, ?_, rfl⟩; rfl) | exact rfl | exact Nat.zero_le _ | constructor)
        conv => whnf
        refine Fork.intro (fun h => absurd (h.symm.trans (show (!decide ((((mdel x.id M)).length : Int) = (outOf x.id V).length)) = false by rw [hi2.len, hV2.length_eq]; simp)) (by decide)) (fun _ => ?_)
        conv => whnf
        rw [hwk]
        refine ⟨⟨k + 1, ⟨now, (fun j => outOf x.id (R j)), T, U, (mdel x.id M), outOf x.id L⟩, c, outOf x.id V⟩, [], [], ⟨?_, coverH_self (m := 53) rfl rfl rfl rfl rfl fun _ _ => rfl, rfl, Nat.zero_le _, rfl, rfl⟩, ⟨by show k + 1 ≤ _; omega, by show k + 1 ≤ 40; omega, hi2, hs2, by show (outOf x.id L).length ≤ k + 1; omega, by show now ≤ 1073741824 + 4095 * ((k + 1 : Nat) : Int); omega, hd2, hV2⟩, by show l.length - (k + 1) < l.length - k; omega⟩
        repeat' (first | exact trivial | exact .inl (DLe.refl _) | exact .inl (DLe.nil _ _) | (refine .inr ⟨rfl, _, ?_, rfl⟩; rfl) | exact rfl | exact Nat.zero_le _ | constructor)
      | false =>
        obtain ⟨X, hX⟩ : ∃ X, X = (WS.mk now R T [] M L).ticks (clampN x.at_).toNat := ⟨_, rfl⟩
        obtain ⟨x1, x2, x3, x4⟩ := ticks_spec (WS.mk now R T [] M L) hi hs (clampN x.at_).toNat
        rw [← hX] at x1 x2 x3 x4
        obtain ⟨c0, c1, c2⟩ := clampI_in x.at_
        have hcc : ((clampN x.at_).toNat : Int) = clampI x.at_ := by unfold clampN; omega
        rw [hcc] at x1 x3 x4
        have x1 : X.now = now + clampI x.at_ := x1
        have x3 : X.L = L.dropWhile (upTo (now + clampI x.at_)) := x3
        have x4 : X.U = L.takeWhile (upTo (now + clampI x.at_)) := x4
        have hUL : X.U ++ X.L = L := by rw [x3, x4]; exact List.takeWhile_append_dropWhile
        have hUl : X.U.length + X.L.length ≤ 40 := by have := congrArg List.length hUL; rw [List.length_append] at this; omega
        have hi2 := x2
        have hs2 : Sorted X.L := by rw [x3]; exact hs.drop _
        have hL2 : X.L.length ≤ L.length := by rw [x3]; exact (List.dropWhile_sublist _).length_le
        have hd2 : ∀ y, y ∈ X.L → y.at_ ≤ 1073741824 + 4095 * (((k + 1 : Nat) : Int) + 1) := fun y hy => by
          rw [x3] at hy
          have := hdue y ((List.dropWhile_sublist _).subset hy); omega
        have hUU : ∀ u, u ∈ X.U → now < u.at_ ∧ u.at_ ≤ X.now := fun u hu => by
          refine ⟨hi.due (by rw [← hUL]; exact List.mem_append_left _ hu), ?_⟩
          rw [x4] at hu
          have := List.all_eq_true.1 (List.all_takeWhile (p := upTo (now + clampI x.at_)) (l := L)) u hu
          have := of_decide_eq_true this
          omega
        have hsU : Sorted (X.U ++ X.L) := by rw [hUL]; exact hs
        have hkU : Keys (X.U ++ X.L) := by rw [hUL]; exact hi.keys
        have hVU : V.Perm (X.U ++ X.L) := by rw [hUL]; exact hV
        clear x3 x4
        conv => whnf
        refine CallVC.look (now_rd now _) rfl ?_
        rintro _ rfl
        conv => whnf
        refine CallVC.cov (args1 := [.loc 0 0, intD x.at_]) [] [] ⟨[(12, intD now), (11, intD now), (7, intD k), (6, .grow 2), (5, .loc 0 0), (1, rowsE l)], WH now R T U M c (.grow Al 58 2 alD (V)), 53, ([], 0)⟩ ?_ ?_ (turn_vc _ now R T U M c _ _ x.at_ L (by rfl) rfl (fun _ _ _ => rfl) hi hs (by omega) (by omega) (fun a ha => by have := hdue a ha; omega) fun X' hX' => ?_)
        · repeat' (first | exact trivial | exact .inl (DLe.refl _) | exact .inl (DLe.nil _ _) | (refine .inr ⟨rfl, _, ?_, rfl⟩; rfl) | exact rfl | exact Nat.zero_le _ | constructor)
        · repeat' (first | exact trivial | exact .inl (DLe.refl _) | exact .inl (DLe.nil _ _) | (refine .inr ⟨rfl, _, ?_, rfl⟩; rfl) | exact rfl | exact Nat.zero_le _ | constructor)
        obtain rfl : X = X' := hX.trans hX'.symm
        conv => whnf
        refine ⟨Nat × List Al × Int, fun g => ⟨[(14, intD g.1), (13, .grow 3), (12, intD g.2.2), (11, intD now), (7, intD k), (6, .grow 2), (5, .loc 0 0), (1, rowsE l)], WH X.now X.R X.T X.U X.M c (.grow Al 58 2 alD (g.2.1)), 53, ([], 0)⟩, fun g => TInv now X.now X.U X.L g.2.1 g.1 g.2.2, fun g => X.U.length - g.1, ⟨(0, V, now), [], [], ?_, ⟨Nat.zero_le _, hVU, rfl⟩⟩, ?_⟩
        · repeat' (first | exact trivial | exact .inl (DLe.refl _) | exact .inl (DLe.nil _ _) | (refine .inr ⟨rfl, _, ?_, rfl⟩; rfl) | exact rfl | exact Nat.zero_le _ | constructor)
        · rintro ⟨j, V1, last⟩ hT
          replace hT : TInv now X.now X.U X.L V1 j last := hT
          have hV1l : V1.length ≤ 1000 := by have := hT.perm.length_eq; simp only [List.length_append, List.length_drop] at this; omega
          conv => whnf
          cases g3 : decide ((j : Int) < X.U.length) with
          | true =>
            have hlj : j < X.U.length := by have := of_decide_eq_true g3; omega
            obtain ⟨u, hu⟩ : ∃ u, X.U[j]? = some u := ⟨X.U[j], List.getElem?_eq_getElem hlj⟩
            obtain ⟨jj, y, e1, e2, e3, e4, e5, e6, e7, hT2⟩ := hT.step hsU hkU hUU hu
            have hwj : IntKind.i64.wrap ((j : Int) + 1) = ((j + 1 : Nat) : Int) := wrap_next (show j < 1000 by omega) (by omega)
            have hjj : jj < V1.length := (List.getElem?_eq_some_iff.1 e2).1
            conv => whnf
            refine ⟨rfl, ⟨by omega, by omega⟩, ?_⟩
            conv => whnf
            refine ⟨rfl, by rw [nat_toNat]; omega, each_one hu ?_⟩
            conv => whnf
            refine CallVC.snap (place_fn V1 u.id (by omega)) ?_
            rintro _ rfl
            refine ⟨rfl, ?_⟩
            rw [e1]
            conv => whnf
            refine Fork.intro (b := decide ((jj : Int) < 0)) (X := True) (fun _ => trivial) (fun _ => ?_)
            conv => whnf
            refine ⟨rfl, ⟨by omega, by show (jj : Int) < V1.length; omega⟩, ?_⟩
            conv => whnf
            refine ⟨rfl, by show (jj : Int).toNat < V1.length; omega, each_one e2 ?_⟩
            conv => whnf
            refine ⟨rfl, ⟨by omega, by omega⟩, ?_⟩
            conv => whnf
            refine ⟨rfl, by rw [nat_toNat]; omega, each_one hu ?_⟩
            conv => whnf
            refine Fork.intro (fun h => absurd (h.symm.trans (show (!decide (y.at_ = u.at_)) = false by rw [e3]; simp)) (by decide)) (fun _ => ?_)
            conv => whnf
            refine ⟨rfl, ⟨by omega, by omega⟩, ?_⟩
            conv => whnf
            refine ⟨rfl, by rw [nat_toNat]; omega, each_one hu ?_⟩
            conv => whnf
            refine Fork.intro (fun h => absurd (h.symm.trans (show decide (u.at_ ≤ now) = false from decide_eq_false (by omega))) (by decide)) (fun _ => ?_)
            conv => whnf
            refine ⟨rfl, ⟨by omega, by omega⟩, ?_⟩
            conv => whnf
            refine ⟨rfl, by rw [nat_toNat]; omega, each_one hu ?_⟩
            conv => whnf
            refine CallVC.look (now_rd X.now _) rfl ?_
            rintro _ rfl
            conv => whnf
            refine Fork.intro (fun h => absurd (h.symm.trans (show decide (X.now < u.at_) = false from decide_eq_false (by omega))) (by decide)) (fun _ => ?_)
            conv => whnf
            refine ⟨rfl, ⟨by omega, by omega⟩, ?_⟩
            conv => whnf
            refine ⟨rfl, by rw [nat_toNat]; omega, each_one hu ?_⟩
            conv => whnf
            refine Fork.intro (fun h => absurd (h.symm.trans (show decide (u.at_ < last) = false from decide_eq_false (by omega))) (by decide)) (fun _ => ?_)
            conv => whnf
            refine ⟨rfl, ⟨by omega, by omega⟩, ?_⟩
            conv => whnf
            refine ⟨rfl, by rw [nat_toNat]; omega, each_one hu ?_⟩
            conv => whnf
            refine CallVC.cov (args1 := [.grow 2, intD jj]) [] [] ⟨[(14, intD j), (13, .grow 3), (12, intD u.at_), (11, intD now), (7, intD k), (6, .grow 2), (5, .loc 0 0), (1, rowsE l)], WH X.now X.R X.T X.U X.M c (.grow Al 58 2 alD (V1)), 53, ([], 0)⟩ ?_ ?_ (without_vc _ _ _ _ _ _ c V1 u.id _ rfl e4 hV1l e1.symm ?_)
            · repeat' (first | exact trivial | exact .inl (DLe.refl _) | exact .inl (DLe.nil _ _) | (refine .inr ⟨rfl, _, ?_, rfl⟩; rfl) | exact rfl | exact Nat.zero_le _ | constructor)
            · repeat' (first | exact trivial | exact .inl (DLe.refl _) | exact .inl (DLe.nil _ _) | (refine .inr ⟨rfl, _, ?_, rfl⟩; rfl) | exact rfl | exact Nat.zero_le _ | constructor)
            conv => whnf
            rw [hwj]
            refine ⟨(j + 1, outOf u.id V1, u.at_), [(2, 53)], [], ?_, hT2, by show X.U.length - (j + 1) < X.U.length - j; omega⟩
            repeat' (first | exact trivial | exact .inl (DLe.refl _) | exact .inl (DLe.nil _ _) | (refine .inr ⟨rfl, _, ?_, rfl⟩; rfl) | exact rfl | exact Nat.zero_le _ | constructor)
          | false =>
            have hge := of_decide_eq_false g3
            have hV2 : V1.Perm X.L := by
              have := hT.perm
              rwa [List.drop_of_length_le (by omega), List.nil_append] at this
            conv => whnf
            refine ⟨Nat, fun i => ⟨[(16, intD i), (7, intD k), (6, .grow 2), (5, .loc 0 0), (1, rowsE l)], WH X.now X.R X.T X.U X.M c (.grow Al 58 2 alD (V1)), 53, ([], 0)⟩, fun i => i ≤ V1.length, fun i => V1.length - i, ⟨0, [], [], ?_, Nat.zero_le _⟩, ?_⟩
            · repeat' (first | exact trivial | exact .inl (DLe.refl _) | exact .inl (DLe.nil _ _) | (refine .inr ⟨rfl, _, ?_, rfl⟩; rfl) | exact rfl | exact Nat.zero_le _ | constructor)
            · intro i hi'
              replace hi' : i ≤ V1.length := hi'
              conv => whnf
              cases g4 : decide ((i : Int) < V1.length) with
              | true =>
                have hli : i < V1.length := by have := of_decide_eq_true g4; omega
                obtain ⟨u, hu⟩ : ∃ u, V1[i]? = some u := ⟨V1[i], List.getElem?_eq_getElem hli⟩
                have hlate := hi2.due (hV2.mem_iff.1 (List.mem_of_getElem? hu))
                have hwi : IntKind.i64.wrap ((i : Int) + 1) = ((i + 1 : Nat) : Int) := wrap_next (show i < 1000 by omega) (by omega)
                conv => whnf
                refine ⟨rfl, ⟨by omega, by omega⟩, ?_⟩
                conv => whnf
                refine ⟨rfl, by rw [nat_toNat]; omega, each_one hu ?_⟩
                conv => whnf
                refine CallVC.look (now_rd X.now _) rfl ?_
                rintro _ rfl
                conv => whnf
                refine Fork.intro (fun h => absurd (h.symm.trans (show decide (u.at_ ≤ X.now) = false from decide_eq_false (by omega))) (by decide)) (fun _ => ?_)
                conv => whnf
                rw [hwi]
                refine ⟨i + 1, [], [], ⟨?_, coverH_self (m := 53) rfl rfl rfl rfl rfl fun _ _ => rfl, rfl, Nat.zero_le _, rfl, rfl⟩, hli, by show V1.length - (i + 1) < V1.length - i; omega⟩
                repeat' (first | exact trivial | exact .inl (DLe.refl _) | exact .inl (DLe.nil _ _) | (refine .inr ⟨rfl, _, ?_, rfl⟩; rfl) | exact rfl | exact Nat.zero_le _ | constructor)
              | false =>
                conv => whnf
                refine CallVC.cov (args1 := [.loc 0 0]) [] [] ⟨[(7, intD k), (6, .grow 2), (5, .loc 0 0), (1, rowsE l)], WH X.now X.R X.T X.U X.M c (.grow Al 58 2 alD (V1)), 53, ([], 0)⟩ ?_ ?_ (len_rd X.now X.R X.T X.U X.M c _ _ _ rfl rfl (fun _ _ _ => rfl) ?_)
                · repeat' (first | exact trivial | exact .inl (DLe.refl _) | exact .inl (DLe.nil _ _) | (refine .inr ⟨rfl, _, ?_, rfl⟩; rfl) | exact rfl | exact Nat.zero_le _ | constructor)
                · repeat' (first | exact trivial | exact .inl (DLe.refl _) | exact .inl (DLe.nil _ _) | (refine .inr ⟨rfl, _, ?_, rfl⟩; rfl) | exact rfl | exact Nat.zero_le _ | constructor)
                conv => whnf
                refine Fork.intro (fun h => absurd (h.symm.trans (show (!decide (((X.M).length : Int) = (V1).length)) = false by rw [hi2.len, hV2.length_eq]; simp)) (by decide)) (fun _ => ?_)
                conv => whnf
                rw [hwk]
                refine ⟨⟨k + 1, ⟨X.now, X.R, X.T, X.U, X.M, X.L⟩, c, V1⟩, [], [], ⟨?_, coverH_self (m := 53) rfl rfl rfl rfl rfl fun _ _ => rfl, rfl, Nat.zero_le _, rfl, rfl⟩, ⟨by show k + 1 ≤ _; omega, by show k + 1 ≤ 40; omega, hi2, hs2, by show (X.L).length ≤ k + 1; omega, by show X.now ≤ 1073741824 + 4095 * ((k + 1 : Nat) : Int); omega, hd2, hV2⟩, by show l.length - (k + 1) < l.length - k; omega⟩
                repeat' (first | exact trivial | exact .inl (DLe.refl _) | exact .inl (DLe.nil _ _) | (refine .inr ⟨rfl, _, ?_, rfl⟩; rfl) | exact rfl | exact Nat.zero_le _ | constructor)
end Go.Proofs.Ytcbpdjikdohegaa.V
