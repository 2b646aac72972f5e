/-
  The law WheelDoes, by value. No condition.
  Rows of deeds that come in. No condition.
-/
import Derived.Test.YtcbpdjikdohegaaK11
import Derived.Test.YtcbpdjikdohegaaK1
import Derived.Test.YtcbpdjikdohegaaLaw
import Derived.Test.YtcbpdjikdohegaaReads
namespace Go.Proofs.Ytcbpdjikdohegaa.V
open Go.RowKit
attribute [local irreducible] Fn FnN OpVC Ob RowFn

/-- A deed. -/
structure De where
  kind : Int
  id : Int
  at_ : Int
def deD (x : De) : List D := [intD x.kind, intD x.id, intD x.at_]
abbrev rowsE (L : List De) : D := .rows De 3 deD L
/-- How far ahead an alarm is set. -/
def inC (n : Int) : Int := match decide (n < -3) with
  | true => -3
  | false => match decide (5000 < n) with
    | true => 5000
    | false => n
theorem inC_in (n : Int) : -3 ≤ inC n ∧ inC n ≤ 5000 := by
  unfold inC
  split
  · omega
  · rename_i h1; have := of_decide_eq_false h1
    split
    · omega
    · rename_i h2; have := of_decide_eq_false h2; omega
/-- Where the law stands. -/
structure DS where
  k : Nat
  X : WS
  c : Nat
structure DInv (l : List De) (g : DS) : Prop where
  k1 : g.k ≤ l.length
  k2 : g.k ≤ 40
  inv : WInv g.X.now g.X.R g.X.M g.X.L
  so : Sorted g.X.L
  len : g.X.L.length ≤ g.k
  lo : g.X.now ≤ 1073741824 + 4095 * g.k
  due : ∀ a, a ∈ g.X.L → a.at_ ≤ 1073741824 + 4095 * (g.k + 1)

set_option maxHeartbeats 8000000 in
theorem does_fn (n0 : Int) (l : List De) (look : Int) : Fn Try.prog 5 [intD n0, rowsE l, intD look] fun d => d = boolD true := by
  refine fnOf [(12, [1000]), (13, [1000]), (16, [1000]), (9, [1000]), (20, [1000])] Try.func5 rfl (by kernel_rfl) (Nat.le_of_ble_eq_true rfl) ?_
  obtain ⟨hn0, hn1⟩ := newN_in n0
  have hnm := newN_min n0
  conv => whnf
  refine goIn [] Try.func20 rfl (by kernel_rfl) (Nat.le_of_ble_eq_true rfl) ?_
  conv => whnf
  refine op_makeMap rfl ?_
  conv => whnf
  refine goIn [] Try.func21 rfl (by kernel_rfl) (Nat.le_of_ble_eq_true rfl) ?_
  conv => whnf
  refine CallVC.pure (in_fn n0 0 1073741824) rfl ?_
  rintro _ rfl
  conv => whnf
  refine ⟨DS, fun g => ⟨[(9, intD g.k), (8, .loc 2 0), (7, .loc 0 0), (2, intD look), (1, rowsE l)], WH g.X.now g.X.R g.X.T g.X.U g.X.M g.c (docO g.X.now g.X.L), 53, ([], 0)⟩,
    DInv l, fun g => l.length - g.k, ⟨⟨0, ⟨newN n0, fun _ => [], [], [], [], []⟩, 0⟩, [(0, 1), (1, 0)], [3, 4, 5, 6, 7, 8, 9, 10, 11, 12, 13, 14, 15, 16, 17, 18, 19, 20, 21, 22, 23, 24, 25, 26, 27, 28, 29, 30, 31, 32, 33, 34, 35, 36, 37, 38, 39, 40, 41, 42, 43, 44, 45, 46, 47, 48, 49, 50, 51, 52], ?_, ⟨Nat.zero_le _, Nat.zero_le _, winv_new _ hn0, .nil, Nat.le_refl _, by show newN n0 ≤ 1073741824 + 4095 * (0 : Int); omega, fun _ h => by cases h⟩⟩, ?_⟩
  · repeat' (first | exact trivial | exact .inl (DLe.refl _) | exact .inl (DLe.nil _ _) | (refine .inr ⟨rfl, _, ?_, rfl⟩; rfl) | exact rfl | exact Nat.zero_le _ | constructor)
    all_goals (rw [← hnm]; exact DLe.refl _)
  · rintro ⟨k, ⟨now, R, T, U, M, L⟩, c⟩ ⟨hk1, hk2, hi, hs, hL, hlo, hdue⟩
    dsimp only at hk1 hk2 hi hs hL hlo hdue
    have hp0 := hi.n0
    conv => whnf
    cases g1 : decide ((k : Int) < l.length) with
    | false =>
      conv => whnf
      refine CallVC.pure lives_fn rfl ?_
      rintro _ rfl
      conv => whnf
    | true =>
    have hlt := of_decide_eq_true g1
    conv => whnf
    cases g2 : decide ((k : Int) < 40) with
    | false =>
      conv => whnf
      refine CallVC.pure lives_fn rfl ?_
      rintro _ rfl
      conv => whnf
    | true =>
    have hlt40 := of_decide_eq_true g2
    obtain ⟨x, hx⟩ : ∃ x, l[k]? = some x := ⟨l[k]'(by omega), List.getElem?_eq_getElem _⟩
    have hwk : IntKind.i64.wrap ((k : Int) + 1) = ((k + 1 : Nat) : Int) := wrap_next (show k < 100 by omega) (by omega)
    conv => whnf
    refine ⟨rfl, ⟨by omega, hlt⟩, each_one hx ?_⟩
    conv => whnf
    cases hk0 : decide (x.kind = 0) with
    | true =>
      have hin := in_fn x.at_ (-3) 5000
      change Fn _ _ _ (fun d => d = intD (inC x.at_)) at hin
      obtain ⟨c0, c1⟩ := inC_in x.at_
      have hw : IntKind.i64.wrap (now + inC x.at_) = now + inC x.at_ := IntWalk.i64_in _ (by omega)
      generalize hcx : inC x.at_ = cx at *
      conv => whnf
      refine ⟨⟨[(11, .loc 53 0), (9, intD k), (8, .loc 2 0), (7, .loc 0 0), (2, intD look), (1, rowsE l)], (53, .cells 58 (alD ⟨x.id, now + cx⟩)) :: WH now R T U M c (docO now L), 54, ([], 0)⟩, ?_, ?_⟩
      · conv => whnf
        conv => whnf
        refine ⟨?_, ?_, ?_, ?_, trivial⟩
        · conv => whnf
          refine ⟨?_, ?_, ?_, trivial⟩
          · conv => whnf
            refine ⟨?_, ?_, trivial⟩
            · conv => whnf
              refine ⟨?_, ?_, trivial⟩
              · conv => whnf
                refine CallVC.pure hin rfl ?_
                rintro _ rfl
                conv => whnf
                refine ⟨?_, trivial⟩
                · conv => whnf
                  refine ⟨?_, trivial⟩
                  · conv => whnf
                    rw [hw]
                    refine ⟨[(53, 54)], [], ⟨?_, ⟨?_, coverH_self (m := 53) rfl rfl rfl rfl rfl fun i hi => (by repeat rw [lget_ne _ _ (by omega)])⟩, rfl, Nat.zero_le _, rfl, rfl⟩⟩
                    · repeat' (first | exact trivial | exact .inl (DLe.refl _) | exact .inl (DLe.nil _ _) | (refine .inr ⟨rfl, _, ?_, rfl⟩; rfl) | exact rfl | exact Nat.zero_le _ | constructor)
                    · repeat' (first | exact trivial | exact .inl (DLe.refl _) | exact .inl (DLe.nil _ _) | (refine .inr ⟨rfl, _, ?_, rfl⟩; rfl) | exact rfl | exact Nat.zero_le _ | constructor)
              · conv => whnf
                refine ⟨?_, trivial⟩
                · conv => whnf
                  refine CallVC.pure hin rfl ?_
                  rintro _ rfl
                  conv => whnf
                  refine ⟨?_, trivial⟩
                  · conv => whnf
                    rw [hw]
                    refine ⟨[(53, 54)], [], ⟨?_, ⟨?_, coverH_self (m := 53) rfl rfl rfl rfl rfl fun i hi => (by repeat rw [lget_ne _ _ (by omega)])⟩, rfl, Nat.zero_le _, rfl, rfl⟩⟩
                    · repeat' (first | exact trivial | exact .inl (DLe.refl _) | exact .inl (DLe.nil _ _) | (refine .inr ⟨rfl, _, ?_, rfl⟩; rfl) | exact rfl | exact Nat.zero_le _ | constructor)
                    · repeat' (first | exact trivial | exact .inl (DLe.refl _) | exact .inl (DLe.nil _ _) | (refine .inr ⟨rfl, _, ?_, rfl⟩; rfl) | exact rfl | exact Nat.zero_le _ | constructor)
            · conv => whnf
              refine ⟨?_, trivial⟩
              · conv => whnf
                refine ⟨?_, trivial⟩
                · conv => whnf
                  refine CallVC.pure hin rfl ?_
                  rintro _ rfl
                  conv => whnf
                  refine ⟨?_, trivial⟩
                  · conv => whnf
                    rw [hw]
                    refine ⟨[(53, 54)], [], ⟨?_, ⟨?_, coverH_self (m := 53) rfl rfl rfl rfl rfl fun i hi => (by repeat rw [lget_ne _ _ (by omega)])⟩, rfl, Nat.zero_le _, rfl, rfl⟩⟩
                    · repeat' (first | exact trivial | exact .inl (DLe.refl _) | exact .inl (DLe.nil _ _) | (refine .inr ⟨rfl, _, ?_, rfl⟩; rfl) | exact rfl | exact Nat.zero_le _ | constructor)
                    · repeat' (first | exact trivial | exact .inl (DLe.refl _) | exact .inl (DLe.nil _ _) | (refine .inr ⟨rfl, _, ?_, rfl⟩; rfl) | exact rfl | exact Nat.zero_le _ | constructor)
          · conv => whnf
            refine ⟨?_, ?_, ?_, trivial⟩
            · conv => whnf
              refine ⟨?_, ?_, trivial⟩
              · conv => whnf
                refine CallVC.pure hin rfl ?_
                rintro _ rfl
                conv => whnf
                refine ⟨?_, trivial⟩
                · conv => whnf
                  refine ⟨?_, trivial⟩
                  · conv => whnf
                    rw [hw]
                    refine ⟨[(53, 54)], [], ⟨?_, ⟨?_, coverH_self (m := 53) rfl rfl rfl rfl rfl fun i hi => (by repeat rw [lget_ne _ _ (by omega)])⟩, rfl, Nat.zero_le _, rfl, rfl⟩⟩
                    · repeat' (first | exact trivial | exact .inl (DLe.refl _) | exact .inl (DLe.nil _ _) | (refine .inr ⟨rfl, _, ?_, rfl⟩; rfl) | exact rfl | exact Nat.zero_le _ | constructor)
                    · repeat' (first | exact trivial | exact .inl (DLe.refl _) | exact .inl (DLe.nil _ _) | (refine .inr ⟨rfl, _, ?_, rfl⟩; rfl) | exact rfl | exact Nat.zero_le _ | constructor)
              · conv => whnf
                refine ⟨?_, trivial⟩
                · conv => whnf
                  refine CallVC.pure hin rfl ?_
                  rintro _ rfl
                  conv => whnf
                  refine ⟨?_, trivial⟩
                  · conv => whnf
                    rw [hw]
                    refine ⟨[(53, 54)], [], ⟨?_, ⟨?_, coverH_self (m := 53) rfl rfl rfl rfl rfl fun i hi => (by repeat rw [lget_ne _ _ (by omega)])⟩, rfl, Nat.zero_le _, rfl, rfl⟩⟩
                    · repeat' (first | exact trivial | exact .inl (DLe.refl _) | exact .inl (DLe.nil _ _) | (refine .inr ⟨rfl, _, ?_, rfl⟩; rfl) | exact rfl | exact Nat.zero_le _ | constructor)
                    · repeat' (first | exact trivial | exact .inl (DLe.refl _) | exact .inl (DLe.nil _ _) | (refine .inr ⟨rfl, _, ?_, rfl⟩; rfl) | exact rfl | exact Nat.zero_le _ | constructor)
            · conv => whnf
              refine CallVC.pure hin rfl ?_
              rintro _ rfl
              conv => whnf
              refine ⟨?_, ?_, trivial⟩
              · conv => whnf
                refine ⟨?_, trivial⟩
                · conv => whnf
                  refine ⟨?_, trivial⟩
                  · conv => whnf
                    rw [hw]
                    refine ⟨[(53, 54)], [], ⟨?_, ⟨?_, coverH_self (m := 53) rfl rfl rfl rfl rfl fun i hi => (by repeat rw [lget_ne _ _ (by omega)])⟩, rfl, Nat.zero_le _, rfl, rfl⟩⟩
                    · repeat' (first | exact trivial | exact .inl (DLe.refl _) | exact .inl (DLe.nil _ _) | (refine .inr ⟨rfl, _, ?_, rfl⟩; rfl) | exact rfl | exact Nat.zero_le _ | constructor)
                    · repeat' (first | exact trivial | exact .inl (DLe.refl _) | exact .inl (DLe.nil _ _) | (refine .inr ⟨rfl, _, ?_, rfl⟩; rfl) | exact rfl | exact Nat.zero_le _ | constructor)
              · conv => whnf
                refine ⟨?_, trivial⟩
                · conv => whnf
                  refine ⟨?_, trivial⟩
                  · conv => whnf
                    rw [hw]
                    refine ⟨[(53, 54)], [], ⟨?_, ⟨?_, coverH_self (m := 53) rfl rfl rfl rfl rfl fun i hi => (by repeat rw [lget_ne _ _ (by omega)])⟩, rfl, Nat.zero_le _, rfl, rfl⟩⟩
                    · repeat' (first | exact trivial | exact .inl (DLe.refl _) | exact .inl (DLe.nil _ _) | (refine .inr ⟨rfl, _, ?_, rfl⟩; rfl) | exact rfl | exact Nat.zero_le _ | constructor)
                    · repeat' (first | exact trivial | exact .inl (DLe.refl _) | exact .inl (DLe.nil _ _) | (refine .inr ⟨rfl, _, ?_, rfl⟩; rfl) | exact rfl | exact Nat.zero_le _ | constructor)
            · conv => whnf
              refine ⟨?_, ?_, trivial⟩
              · conv => whnf
                refine ⟨?_, trivial⟩
                · conv => whnf
                  refine CallVC.pure hin rfl ?_
                  rintro _ rfl
                  conv => whnf
                  refine ⟨?_, trivial⟩
                  · conv => whnf
                    rw [hw]
                    refine ⟨[(53, 54)], [], ⟨?_, ⟨?_, coverH_self (m := 53) rfl rfl rfl rfl rfl fun i hi => (by repeat rw [lget_ne _ _ (by omega)])⟩, rfl, Nat.zero_le _, rfl, rfl⟩⟩
                    · repeat' (first | exact trivial | exact .inl (DLe.refl _) | exact .inl (DLe.nil _ _) | (refine .inr ⟨rfl, _, ?_, rfl⟩; rfl) | exact rfl | exact Nat.zero_le _ | constructor)
                    · repeat' (first | exact trivial | exact .inl (DLe.refl _) | exact .inl (DLe.nil _ _) | (refine .inr ⟨rfl, _, ?_, rfl⟩; rfl) | exact rfl | exact Nat.zero_le _ | constructor)
              · conv => whnf
                refine CallVC.pure hin rfl ?_
                rintro _ rfl
                conv => whnf
                refine ⟨?_, trivial⟩
                · conv => whnf
                  refine ⟨?_, trivial⟩
                  · conv => whnf
                    rw [hw]
                    refine ⟨[(53, 54)], [], ⟨?_, ⟨?_, coverH_self (m := 53) rfl rfl rfl rfl rfl fun i hi => (by repeat rw [lget_ne _ _ (by omega)])⟩, rfl, Nat.zero_le _, rfl, rfl⟩⟩
                    · repeat' (first | exact trivial | exact .inl (DLe.refl _) | exact .inl (DLe.nil _ _) | (refine .inr ⟨rfl, _, ?_, rfl⟩; rfl) | exact rfl | exact Nat.zero_le _ | constructor)
                    · repeat' (first | exact trivial | exact .inl (DLe.refl _) | exact .inl (DLe.nil _ _) | (refine .inr ⟨rfl, _, ?_, rfl⟩; rfl) | exact rfl | exact Nat.zero_le _ | constructor)
          · conv => whnf
            refine ⟨?_, ?_, trivial⟩
            · conv => whnf
              refine ⟨?_, trivial⟩
              · conv => whnf
                refine ⟨?_, trivial⟩
                · conv => whnf
                  refine CallVC.pure hin rfl ?_
                  rintro _ rfl
                  conv => whnf
                  refine ⟨?_, trivial⟩
                  · conv => whnf
                    rw [hw]
                    refine ⟨[(53, 54)], [], ⟨?_, ⟨?_, coverH_self (m := 53) rfl rfl rfl rfl rfl fun i hi => (by repeat rw [lget_ne _ _ (by omega)])⟩, rfl, Nat.zero_le _, rfl, rfl⟩⟩
                    · repeat' (first | exact trivial | exact .inl (DLe.refl _) | exact .inl (DLe.nil _ _) | (refine .inr ⟨rfl, _, ?_, rfl⟩; rfl) | exact rfl | exact Nat.zero_le _ | constructor)
                    · repeat' (first | exact trivial | exact .inl (DLe.refl _) | exact .inl (DLe.nil _ _) | (refine .inr ⟨rfl, _, ?_, rfl⟩; rfl) | exact rfl | exact Nat.zero_le _ | constructor)
            · conv => whnf
              refine ⟨?_, ?_, trivial⟩
              · conv => whnf
                refine ⟨?_, trivial⟩
                · conv => whnf
                  refine CallVC.pure hin rfl ?_
                  rintro _ rfl
                  conv => whnf
                  refine ⟨?_, trivial⟩
                  · conv => whnf
                    rw [hw]
                    refine ⟨[(53, 54)], [], ⟨?_, ⟨?_, coverH_self (m := 53) rfl rfl rfl rfl rfl fun i hi => (by repeat rw [lget_ne _ _ (by omega)])⟩, rfl, Nat.zero_le _, rfl, rfl⟩⟩
                    · repeat' (first | exact trivial | exact .inl (DLe.refl _) | exact .inl (DLe.nil _ _) | (refine .inr ⟨rfl, _, ?_, rfl⟩; rfl) | exact rfl | exact Nat.zero_le _ | constructor)
                    · repeat' (first | exact trivial | exact .inl (DLe.refl _) | exact .inl (DLe.nil _ _) | (refine .inr ⟨rfl, _, ?_, rfl⟩; rfl) | exact rfl | exact Nat.zero_le _ | constructor)
              · conv => whnf
                refine CallVC.pure hin rfl ?_
                rintro _ rfl
                conv => whnf
                refine ⟨?_, trivial⟩
                · conv => whnf
                  refine ⟨?_, trivial⟩
                  · conv => whnf
                    rw [hw]
                    refine ⟨[(53, 54)], [], ⟨?_, ⟨?_, coverH_self (m := 53) rfl rfl rfl rfl rfl fun i hi => (by repeat rw [lget_ne _ _ (by omega)])⟩, rfl, Nat.zero_le _, rfl, rfl⟩⟩
                    · repeat' (first | exact trivial | exact .inl (DLe.refl _) | exact .inl (DLe.nil _ _) | (refine .inr ⟨rfl, _, ?_, rfl⟩; rfl) | exact rfl | exact Nat.zero_le _ | constructor)
                    · repeat' (first | exact trivial | exact .inl (DLe.refl _) | exact .inl (DLe.nil _ _) | (refine .inr ⟨rfl, _, ?_, rfl⟩; rfl) | exact rfl | exact Nat.zero_le _ | constructor)
        · conv => whnf
          refine ⟨?_, ?_, ?_, trivial⟩
          · conv => whnf
            refine ⟨?_, ?_, trivial⟩
            · conv => whnf
              refine ⟨?_, ?_, trivial⟩
              · conv => whnf
                refine CallVC.pure hin rfl ?_
                rintro _ rfl
                conv => whnf
                refine ⟨?_, trivial⟩
                · conv => whnf
                  refine ⟨?_, trivial⟩
                  · conv => whnf
                    rw [hw]
                    refine ⟨[(53, 54)], [], ⟨?_, ⟨?_, coverH_self (m := 53) rfl rfl rfl rfl rfl fun i hi => (by repeat rw [lget_ne _ _ (by omega)])⟩, rfl, Nat.zero_le _, rfl, rfl⟩⟩
                    · repeat' (first | exact trivial | exact .inl (DLe.refl _) | exact .inl (DLe.nil _ _) | (refine .inr ⟨rfl, _, ?_, rfl⟩; rfl) | exact rfl | exact Nat.zero_le _ | constructor)
                    · repeat' (first | exact trivial | exact .inl (DLe.refl _) | exact .inl (DLe.nil _ _) | (refine .inr ⟨rfl, _, ?_, rfl⟩; rfl) | exact rfl | exact Nat.zero_le _ | constructor)
              · conv => whnf
                refine ⟨?_, trivial⟩
                · conv => whnf
                  refine CallVC.pure hin rfl ?_
                  rintro _ rfl
                  conv => whnf
                  refine ⟨?_, trivial⟩
                  · conv => whnf
                    rw [hw]
                    refine ⟨[(53, 54)], [], ⟨?_, ⟨?_, coverH_self (m := 53) rfl rfl rfl rfl rfl fun i hi => (by repeat rw [lget_ne _ _ (by omega)])⟩, rfl, Nat.zero_le _, rfl, rfl⟩⟩
                    · repeat' (first | exact trivial | exact .inl (DLe.refl _) | exact .inl (DLe.nil _ _) | (refine .inr ⟨rfl, _, ?_, rfl⟩; rfl) | exact rfl | exact Nat.zero_le _ | constructor)
                    · repeat' (first | exact trivial | exact .inl (DLe.refl _) | exact .inl (DLe.nil _ _) | (refine .inr ⟨rfl, _, ?_, rfl⟩; rfl) | exact rfl | exact Nat.zero_le _ | constructor)
            · conv => whnf
              refine ⟨?_, trivial⟩
              · conv => whnf
                refine ⟨?_, trivial⟩
                · conv => whnf
                  refine CallVC.pure hin rfl ?_
                  rintro _ rfl
                  conv => whnf
                  refine ⟨?_, trivial⟩
                  · conv => whnf
                    rw [hw]
                    refine ⟨[(53, 54)], [], ⟨?_, ⟨?_, coverH_self (m := 53) rfl rfl rfl rfl rfl fun i hi => (by repeat rw [lget_ne _ _ (by omega)])⟩, rfl, Nat.zero_le _, rfl, rfl⟩⟩
                    · repeat' (first | exact trivial | exact .inl (DLe.refl _) | exact .inl (DLe.nil _ _) | (refine .inr ⟨rfl, _, ?_, rfl⟩; rfl) | exact rfl | exact Nat.zero_le _ | constructor)
                    · repeat' (first | exact trivial | exact .inl (DLe.refl _) | exact .inl (DLe.nil _ _) | (refine .inr ⟨rfl, _, ?_, rfl⟩; rfl) | exact rfl | exact Nat.zero_le _ | constructor)
          · conv => whnf
            refine ⟨?_, ?_, ?_, trivial⟩
            · conv => whnf
              refine ⟨?_, ?_, trivial⟩
              · conv => whnf
                refine CallVC.pure hin rfl ?_
                rintro _ rfl
                conv => whnf
                refine ⟨?_, trivial⟩
                · conv => whnf
                  refine ⟨?_, trivial⟩
                  · conv => whnf
                    rw [hw]
                    refine ⟨[(53, 54)], [], ⟨?_, ⟨?_, coverH_self (m := 53) rfl rfl rfl rfl rfl fun i hi => (by repeat rw [lget_ne _ _ (by omega)])⟩, rfl, Nat.zero_le _, rfl, rfl⟩⟩
                    · repeat' (first | exact trivial | exact .inl (DLe.refl _) | exact .inl (DLe.nil _ _) | (refine .inr ⟨rfl, _, ?_, rfl⟩; rfl) | exact rfl | exact Nat.zero_le _ | constructor)
                    · repeat' (first | exact trivial | exact .inl (DLe.refl _) | exact .inl (DLe.nil _ _) | (refine .inr ⟨rfl, _, ?_, rfl⟩; rfl) | exact rfl | exact Nat.zero_le _ | constructor)
              · conv => whnf
                refine ⟨?_, trivial⟩
                · conv => whnf
                  refine CallVC.pure hin rfl ?_
                  rintro _ rfl
                  conv => whnf
                  refine ⟨?_, trivial⟩
                  · conv => whnf
                    rw [hw]
                    refine ⟨[(53, 54)], [], ⟨?_, ⟨?_, coverH_self (m := 53) rfl rfl rfl rfl rfl fun i hi => (by repeat rw [lget_ne _ _ (by omega)])⟩, rfl, Nat.zero_le _, rfl, rfl⟩⟩
                    · repeat' (first | exact trivial | exact .inl (DLe.refl _) | exact .inl (DLe.nil _ _) | (refine .inr ⟨rfl, _, ?_, rfl⟩; rfl) | exact rfl | exact Nat.zero_le _ | constructor)
                    · repeat' (first | exact trivial | exact .inl (DLe.refl _) | exact .inl (DLe.nil _ _) | (refine .inr ⟨rfl, _, ?_, rfl⟩; rfl) | exact rfl | exact Nat.zero_le _ | constructor)
            · conv => whnf
              refine CallVC.pure hin rfl ?_
              rintro _ rfl
              conv => whnf
              refine ⟨?_, ?_, trivial⟩
              · conv => whnf
                refine ⟨?_, trivial⟩
                · conv => whnf
                  refine ⟨?_, trivial⟩
                  · conv => whnf
                    rw [hw]
                    refine ⟨[(53, 54)], [], ⟨?_, ⟨?_, coverH_self (m := 53) rfl rfl rfl rfl rfl fun i hi => (by repeat rw [lget_ne _ _ (by omega)])⟩, rfl, Nat.zero_le _, rfl, rfl⟩⟩
                    · repeat' (first | exact trivial | exact .inl (DLe.refl _) | exact .inl (DLe.nil _ _) | (refine .inr ⟨rfl, _, ?_, rfl⟩; rfl) | exact rfl | exact Nat.zero_le _ | constructor)
                    · repeat' (first | exact trivial | exact .inl (DLe.refl _) | exact .inl (DLe.nil _ _) | (refine .inr ⟨rfl, _, ?_, rfl⟩; rfl) | exact rfl | exact Nat.zero_le _ | constructor)
              · conv => whnf
                refine ⟨?_, trivial⟩
                · conv => whnf
                  refine ⟨?_, trivial⟩
                  · conv => whnf
                    rw [hw]
                    refine ⟨[(53, 54)], [], ⟨?_, ⟨?_, coverH_self (m := 53) rfl rfl rfl rfl rfl fun i hi => (by repeat rw [lget_ne _ _ (by omega)])⟩, rfl, Nat.zero_le _, rfl, rfl⟩⟩
                    · repeat' (first | exact trivial | exact .inl (DLe.refl _) | exact .inl (DLe.nil _ _) | (refine .inr ⟨rfl, _, ?_, rfl⟩; rfl) | exact rfl | exact Nat.zero_le _ | constructor)
                    · repeat' (first | exact trivial | exact .inl (DLe.refl _) | exact .inl (DLe.nil _ _) | (refine .inr ⟨rfl, _, ?_, rfl⟩; rfl) | exact rfl | exact Nat.zero_le _ | constructor)
            · conv => whnf
              refine ⟨?_, ?_, trivial⟩
              · conv => whnf
                refine ⟨?_, trivial⟩
                · conv => whnf
                  refine CallVC.pure hin rfl ?_
                  rintro _ rfl
                  conv => whnf
                  refine ⟨?_, trivial⟩
                  · conv => whnf
                    rw [hw]
                    refine ⟨[(53, 54)], [], ⟨?_, ⟨?_, coverH_self (m := 53) rfl rfl rfl rfl rfl fun i hi => (by repeat rw [lget_ne _ _ (by omega)])⟩, rfl, Nat.zero_le _, rfl, rfl⟩⟩
                    · repeat' (first | exact trivial | exact .inl (DLe.refl _) | exact .inl (DLe.nil _ _) | (refine .inr ⟨rfl, _, ?_, rfl⟩; rfl) | exact rfl | exact Nat.zero_le _ | constructor)
                    · repeat' (first | exact trivial | exact .inl (DLe.refl _) | exact .inl (DLe.nil _ _) | (refine .inr ⟨rfl, _, ?_, rfl⟩; rfl) | exact rfl | exact Nat.zero_le _ | constructor)
              · conv => whnf
                refine CallVC.pure hin rfl ?_
                rintro _ rfl
                conv => whnf
                refine ⟨?_, trivial⟩
                · conv => whnf
                  refine ⟨?_, trivial⟩
                  · conv => whnf
                    rw [hw]
                    refine ⟨[(53, 54)], [], ⟨?_, ⟨?_, coverH_self (m := 53) rfl rfl rfl rfl rfl fun i hi => (by repeat rw [lget_ne _ _ (by omega)])⟩, rfl, Nat.zero_le _, rfl, rfl⟩⟩
                    · repeat' (first | exact trivial | exact .inl (DLe.refl _) | exact .inl (DLe.nil _ _) | (refine .inr ⟨rfl, _, ?_, rfl⟩; rfl) | exact rfl | exact Nat.zero_le _ | constructor)
                    · repeat' (first | exact trivial | exact .inl (DLe.refl _) | exact .inl (DLe.nil _ _) | (refine .inr ⟨rfl, _, ?_, rfl⟩; rfl) | exact rfl | exact Nat.zero_le _ | constructor)
          · conv => whnf
            refine ⟨?_, ?_, trivial⟩
            · conv => whnf
              refine ⟨?_, trivial⟩
              · conv => whnf
                refine ⟨?_, trivial⟩
                · conv => whnf
                  refine CallVC.pure hin rfl ?_
                  rintro _ rfl
                  conv => whnf
                  refine ⟨?_, trivial⟩
                  · conv => whnf
                    rw [hw]
                    refine ⟨[(53, 54)], [], ⟨?_, ⟨?_, coverH_self (m := 53) rfl rfl rfl rfl rfl fun i hi => (by repeat rw [lget_ne _ _ (by omega)])⟩, rfl, Nat.zero_le _, rfl, rfl⟩⟩
                    · repeat' (first | exact trivial | exact .inl (DLe.refl _) | exact .inl (DLe.nil _ _) | (refine .inr ⟨rfl, _, ?_, rfl⟩; rfl) | exact rfl | exact Nat.zero_le _ | constructor)
                    · repeat' (first | exact trivial | exact .inl (DLe.refl _) | exact .inl (DLe.nil _ _) | (refine .inr ⟨rfl, _, ?_, rfl⟩; rfl) | exact rfl | exact Nat.zero_le _ | constructor)
            · conv => whnf
              refine ⟨?_, ?_, trivial⟩
              · conv => whnf
                refine ⟨?_, trivial⟩
                · conv => whnf
                  refine CallVC.pure hin rfl ?_
                  rintro _ rfl
                  conv => whnf
                  refine ⟨?_, trivial⟩
                  · conv => whnf
                    rw [hw]
                    refine ⟨[(53, 54)], [], ⟨?_, ⟨?_, coverH_self (m := 53) rfl rfl rfl rfl rfl fun i hi => (by repeat rw [lget_ne _ _ (by omega)])⟩, rfl, Nat.zero_le _, rfl, rfl⟩⟩
                    · repeat' (first | exact trivial | exact .inl (DLe.refl _) | exact .inl (DLe.nil _ _) | (refine .inr ⟨rfl, _, ?_, rfl⟩; rfl) | exact rfl | exact Nat.zero_le _ | constructor)
                    · repeat' (first | exact trivial | exact .inl (DLe.refl _) | exact .inl (DLe.nil _ _) | (refine .inr ⟨rfl, _, ?_, rfl⟩; rfl) | exact rfl | exact Nat.zero_le _ | constructor)
              · conv => whnf
                refine CallVC.pure hin rfl ?_
                rintro _ rfl
                conv => whnf
                refine ⟨?_, trivial⟩
                · conv => whnf
                  refine ⟨?_, trivial⟩
                  · conv => whnf
                    rw [hw]
                    refine ⟨[(53, 54)], [], ⟨?_, ⟨?_, coverH_self (m := 53) rfl rfl rfl rfl rfl fun i hi => (by repeat rw [lget_ne _ _ (by omega)])⟩, rfl, Nat.zero_le _, rfl, rfl⟩⟩
                    · repeat' (first | exact trivial | exact .inl (DLe.refl _) | exact .inl (DLe.nil _ _) | (refine .inr ⟨rfl, _, ?_, rfl⟩; rfl) | exact rfl | exact Nat.zero_le _ | constructor)
                    · repeat' (first | exact trivial | exact .inl (DLe.refl _) | exact .inl (DLe.nil _ _) | (refine .inr ⟨rfl, _, ?_, rfl⟩; rfl) | exact rfl | exact Nat.zero_le _ | constructor)
        · conv => whnf
          refine ⟨?_, ?_, ?_, ?_, trivial⟩
          · conv => whnf
            refine ⟨?_, ?_, ?_, trivial⟩
            · conv => whnf
              refine ⟨?_, ?_, trivial⟩
              · conv => whnf
                refine CallVC.pure hin rfl ?_
                rintro _ rfl
                conv => whnf
                refine ⟨?_, trivial⟩
                · conv => whnf
                  refine ⟨?_, trivial⟩
                  · conv => whnf
                    rw [hw]
                    refine ⟨[(53, 54)], [], ⟨?_, ⟨?_, coverH_self (m := 53) rfl rfl rfl rfl rfl fun i hi => (by repeat rw [lget_ne _ _ (by omega)])⟩, rfl, Nat.zero_le _, rfl, rfl⟩⟩
                    · repeat' (first | exact trivial | exact .inl (DLe.refl _) | exact .inl (DLe.nil _ _) | (refine .inr ⟨rfl, _, ?_, rfl⟩; rfl) | exact rfl | exact Nat.zero_le _ | constructor)
                    · repeat' (first | exact trivial | exact .inl (DLe.refl _) | exact .inl (DLe.nil _ _) | (refine .inr ⟨rfl, _, ?_, rfl⟩; rfl) | exact rfl | exact Nat.zero_le _ | constructor)
              · conv => whnf
                refine ⟨?_, trivial⟩
                · conv => whnf
                  refine CallVC.pure hin rfl ?_
                  rintro _ rfl
                  conv => whnf
                  refine ⟨?_, trivial⟩
                  · conv => whnf
                    rw [hw]
                    refine ⟨[(53, 54)], [], ⟨?_, ⟨?_, coverH_self (m := 53) rfl rfl rfl rfl rfl fun i hi => (by repeat rw [lget_ne _ _ (by omega)])⟩, rfl, Nat.zero_le _, rfl, rfl⟩⟩
                    · repeat' (first | exact trivial | exact .inl (DLe.refl _) | exact .inl (DLe.nil _ _) | (refine .inr ⟨rfl, _, ?_, rfl⟩; rfl) | exact rfl | exact Nat.zero_le _ | constructor)
                    · repeat' (first | exact trivial | exact .inl (DLe.refl _) | exact .inl (DLe.nil _ _) | (refine .inr ⟨rfl, _, ?_, rfl⟩; rfl) | exact rfl | exact Nat.zero_le _ | constructor)
            · conv => whnf
              refine CallVC.pure hin rfl ?_
              rintro _ rfl
              conv => whnf
              refine ⟨?_, ?_, trivial⟩
              · conv => whnf
                refine ⟨?_, trivial⟩
                · conv => whnf
                  refine ⟨?_, trivial⟩
                  · conv => whnf
                    rw [hw]
                    refine ⟨[(53, 54)], [], ⟨?_, ⟨?_, coverH_self (m := 53) rfl rfl rfl rfl rfl fun i hi => (by repeat rw [lget_ne _ _ (by omega)])⟩, rfl, Nat.zero_le _, rfl, rfl⟩⟩
                    · repeat' (first | exact trivial | exact .inl (DLe.refl _) | exact .inl (DLe.nil _ _) | (refine .inr ⟨rfl, _, ?_, rfl⟩; rfl) | exact rfl | exact Nat.zero_le _ | constructor)
                    · repeat' (first | exact trivial | exact .inl (DLe.refl _) | exact .inl (DLe.nil _ _) | (refine .inr ⟨rfl, _, ?_, rfl⟩; rfl) | exact rfl | exact Nat.zero_le _ | constructor)
              · conv => whnf
                refine ⟨?_, trivial⟩
                · conv => whnf
                  refine ⟨?_, trivial⟩
                  · conv => whnf
                    rw [hw]
                    refine ⟨[(53, 54)], [], ⟨?_, ⟨?_, coverH_self (m := 53) rfl rfl rfl rfl rfl fun i hi => (by repeat rw [lget_ne _ _ (by omega)])⟩, rfl, Nat.zero_le _, rfl, rfl⟩⟩
                    · repeat' (first | exact trivial | exact .inl (DLe.refl _) | exact .inl (DLe.nil _ _) | (refine .inr ⟨rfl, _, ?_, rfl⟩; rfl) | exact rfl | exact Nat.zero_le _ | constructor)
                    · repeat' (first | exact trivial | exact .inl (DLe.refl _) | exact .inl (DLe.nil _ _) | (refine .inr ⟨rfl, _, ?_, rfl⟩; rfl) | exact rfl | exact Nat.zero_le _ | constructor)
            · conv => whnf
              refine ⟨?_, ?_, trivial⟩
              · conv => whnf
                refine ⟨?_, trivial⟩
                · conv => whnf
                  refine CallVC.pure hin rfl ?_
                  rintro _ rfl
                  conv => whnf
                  refine ⟨?_, trivial⟩
                  · conv => whnf
                    rw [hw]
                    refine ⟨[(53, 54)], [], ⟨?_, ⟨?_, coverH_self (m := 53) rfl rfl rfl rfl rfl fun i hi => (by repeat rw [lget_ne _ _ (by omega)])⟩, rfl, Nat.zero_le _, rfl, rfl⟩⟩
                    · repeat' (first | exact trivial | exact .inl (DLe.refl _) | exact .inl (DLe.nil _ _) | (refine .inr ⟨rfl, _, ?_, rfl⟩; rfl) | exact rfl | exact Nat.zero_le _ | constructor)
                    · repeat' (first | exact trivial | exact .inl (DLe.refl _) | exact .inl (DLe.nil _ _) | (refine .inr ⟨rfl, _, ?_, rfl⟩; rfl) | exact rfl | exact Nat.zero_le _ | constructor)
              · conv => whnf
                refine CallVC.pure hin rfl ?_
                rintro _ rfl
                conv => whnf
                refine ⟨?_, trivial⟩
                · conv => whnf
                  refine ⟨?_, trivial⟩
                  · conv => whnf
                    rw [hw]
                    refine ⟨[(53, 54)], [], ⟨?_, ⟨?_, coverH_self (m := 53) rfl rfl rfl rfl rfl fun i hi => (by repeat rw [lget_ne _ _ (by omega)])⟩, rfl, Nat.zero_le _, rfl, rfl⟩⟩
                    · repeat' (first | exact trivial | exact .inl (DLe.refl _) | exact .inl (DLe.nil _ _) | (refine .inr ⟨rfl, _, ?_, rfl⟩; rfl) | exact rfl | exact Nat.zero_le _ | constructor)
                    · repeat' (first | exact trivial | exact .inl (DLe.refl _) | exact .inl (DLe.nil _ _) | (refine .inr ⟨rfl, _, ?_, rfl⟩; rfl) | exact rfl | exact Nat.zero_le _ | constructor)
          · conv => whnf
            refine ⟨?_, ?_, ?_, trivial⟩
            · conv => whnf
              refine ⟨?_, ?_, trivial⟩
              · conv => whnf
                refine CallVC.pure hin rfl ?_
                rintro _ rfl
                conv => whnf
                refine ⟨?_, trivial⟩
                · conv => whnf
                  refine ⟨?_, trivial⟩
                  · conv => whnf
                    rw [hw]
                    refine ⟨[(53, 54)], [], ⟨?_, ⟨?_, coverH_self (m := 53) rfl rfl rfl rfl rfl fun i hi => (by repeat rw [lget_ne _ _ (by omega)])⟩, rfl, Nat.zero_le _, rfl, rfl⟩⟩
                    · repeat' (first | exact trivial | exact .inl (DLe.refl _) | exact .inl (DLe.nil _ _) | (refine .inr ⟨rfl, _, ?_, rfl⟩; rfl) | exact rfl | exact Nat.zero_le _ | constructor)
                    · repeat' (first | exact trivial | exact .inl (DLe.refl _) | exact .inl (DLe.nil _ _) | (refine .inr ⟨rfl, _, ?_, rfl⟩; rfl) | exact rfl | exact Nat.zero_le _ | constructor)
              · conv => whnf
                refine ⟨?_, trivial⟩
                · conv => whnf
                  refine CallVC.pure hin rfl ?_
                  rintro _ rfl
                  conv => whnf
                  refine ⟨?_, trivial⟩
                  · conv => whnf
                    rw [hw]
                    refine ⟨[(53, 54)], [], ⟨?_, ⟨?_, coverH_self (m := 53) rfl rfl rfl rfl rfl fun i hi => (by repeat rw [lget_ne _ _ (by omega)])⟩, rfl, Nat.zero_le _, rfl, rfl⟩⟩
                    · repeat' (first | exact trivial | exact .inl (DLe.refl _) | exact .inl (DLe.nil _ _) | (refine .inr ⟨rfl, _, ?_, rfl⟩; rfl) | exact rfl | exact Nat.zero_le _ | constructor)
                    · repeat' (first | exact trivial | exact .inl (DLe.refl _) | exact .inl (DLe.nil _ _) | (refine .inr ⟨rfl, _, ?_, rfl⟩; rfl) | exact rfl | exact Nat.zero_le _ | constructor)
            · conv => whnf
              refine CallVC.pure hin rfl ?_
              rintro _ rfl
              conv => whnf
              refine ⟨?_, ?_, trivial⟩
              · conv => whnf
                refine ⟨?_, trivial⟩
                · conv => whnf
                  refine ⟨?_, trivial⟩
                  · conv => whnf
                    rw [hw]
                    refine ⟨[(53, 54)], [], ⟨?_, ⟨?_, coverH_self (m := 53) rfl rfl rfl rfl rfl fun i hi => (by repeat rw [lget_ne _ _ (by omega)])⟩, rfl, Nat.zero_le _, rfl, rfl⟩⟩
                    · repeat' (first | exact trivial | exact .inl (DLe.refl _) | exact .inl (DLe.nil _ _) | (refine .inr ⟨rfl, _, ?_, rfl⟩; rfl) | exact rfl | exact Nat.zero_le _ | constructor)
                    · repeat' (first | exact trivial | exact .inl (DLe.refl _) | exact .inl (DLe.nil _ _) | (refine .inr ⟨rfl, _, ?_, rfl⟩; rfl) | exact rfl | exact Nat.zero_le _ | constructor)
              · conv => whnf
                refine ⟨?_, trivial⟩
                · conv => whnf
                  refine ⟨?_, trivial⟩
                  · conv => whnf
                    rw [hw]
                    refine ⟨[(53, 54)], [], ⟨?_, ⟨?_, coverH_self (m := 53) rfl rfl rfl rfl rfl fun i hi => (by repeat rw [lget_ne _ _ (by omega)])⟩, rfl, Nat.zero_le _, rfl, rfl⟩⟩
                    · repeat' (first | exact trivial | exact .inl (DLe.refl _) | exact .inl (DLe.nil _ _) | (refine .inr ⟨rfl, _, ?_, rfl⟩; rfl) | exact rfl | exact Nat.zero_le _ | constructor)
                    · repeat' (first | exact trivial | exact .inl (DLe.refl _) | exact .inl (DLe.nil _ _) | (refine .inr ⟨rfl, _, ?_, rfl⟩; rfl) | exact rfl | exact Nat.zero_le _ | constructor)
            · conv => whnf
              refine ⟨?_, ?_, trivial⟩
              · conv => whnf
                refine ⟨?_, trivial⟩
                · conv => whnf
                  refine CallVC.pure hin rfl ?_
                  rintro _ rfl
                  conv => whnf
                  refine ⟨?_, trivial⟩
                  · conv => whnf
                    rw [hw]
                    refine ⟨[(53, 54)], [], ⟨?_, ⟨?_, coverH_self (m := 53) rfl rfl rfl rfl rfl fun i hi => (by repeat rw [lget_ne _ _ (by omega)])⟩, rfl, Nat.zero_le _, rfl, rfl⟩⟩
                    · repeat' (first | exact trivial | exact .inl (DLe.refl _) | exact .inl (DLe.nil _ _) | (refine .inr ⟨rfl, _, ?_, rfl⟩; rfl) | exact rfl | exact Nat.zero_le _ | constructor)
                    · repeat' (first | exact trivial | exact .inl (DLe.refl _) | exact .inl (DLe.nil _ _) | (refine .inr ⟨rfl, _, ?_, rfl⟩; rfl) | exact rfl | exact Nat.zero_le _ | constructor)
              · conv => whnf
                refine CallVC.pure hin rfl ?_
                rintro _ rfl
                conv => whnf
                refine ⟨?_, trivial⟩
                · conv => whnf
                  refine ⟨?_, trivial⟩
                  · conv => whnf
                    rw [hw]
                    refine ⟨[(53, 54)], [], ⟨?_, ⟨?_, coverH_self (m := 53) rfl rfl rfl rfl rfl fun i hi => (by repeat rw [lget_ne _ _ (by omega)])⟩, rfl, Nat.zero_le _, rfl, rfl⟩⟩
                    · repeat' (first | exact trivial | exact .inl (DLe.refl _) | exact .inl (DLe.nil _ _) | (refine .inr ⟨rfl, _, ?_, rfl⟩; rfl) | exact rfl | exact Nat.zero_le _ | constructor)
                    · repeat' (first | exact trivial | exact .inl (DLe.refl _) | exact .inl (DLe.nil _ _) | (refine .inr ⟨rfl, _, ?_, rfl⟩; rfl) | exact rfl | exact Nat.zero_le _ | constructor)
          · conv => whnf
            refine CallVC.pure hin rfl ?_
            rintro _ rfl
            conv => whnf
            refine ⟨?_, ?_, ?_, trivial⟩
            · conv => whnf
              refine ⟨?_, ?_, trivial⟩
              · conv => whnf
                refine ⟨?_, trivial⟩
                · conv => whnf
                  refine ⟨?_, trivial⟩
                  · conv => whnf
                    rw [hw]
                    refine ⟨[(53, 54)], [], ⟨?_, ⟨?_, coverH_self (m := 53) rfl rfl rfl rfl rfl fun i hi => (by repeat rw [lget_ne _ _ (by omega)])⟩, rfl, Nat.zero_le _, rfl, rfl⟩⟩
                    · repeat' (first | exact trivial | exact .inl (DLe.refl _) | exact .inl (DLe.nil _ _) | (refine .inr ⟨rfl, _, ?_, rfl⟩; rfl) | exact rfl | exact Nat.zero_le _ | constructor)
                    · repeat' (first | exact trivial | exact .inl (DLe.refl _) | exact .inl (DLe.nil _ _) | (refine .inr ⟨rfl, _, ?_, rfl⟩; rfl) | exact rfl | exact Nat.zero_le _ | constructor)
              · conv => whnf
                refine ⟨?_, trivial⟩
                · conv => whnf
                  refine ⟨?_, trivial⟩
                  · conv => whnf
                    rw [hw]
                    refine ⟨[(53, 54)], [], ⟨?_, ⟨?_, coverH_self (m := 53) rfl rfl rfl rfl rfl fun i hi => (by repeat rw [lget_ne _ _ (by omega)])⟩, rfl, Nat.zero_le _, rfl, rfl⟩⟩
                    · repeat' (first | exact trivial | exact .inl (DLe.refl _) | exact .inl (DLe.nil _ _) | (refine .inr ⟨rfl, _, ?_, rfl⟩; rfl) | exact rfl | exact Nat.zero_le _ | constructor)
                    · repeat' (first | exact trivial | exact .inl (DLe.refl _) | exact .inl (DLe.nil _ _) | (refine .inr ⟨rfl, _, ?_, rfl⟩; rfl) | exact rfl | exact Nat.zero_le _ | constructor)
            · conv => whnf
              refine ⟨?_, ?_, trivial⟩
              · conv => whnf
                refine ⟨?_, trivial⟩
                · conv => whnf
                  refine ⟨?_, trivial⟩
                  · conv => whnf
                    rw [hw]
                    refine ⟨[(53, 54)], [], ⟨?_, ⟨?_, coverH_self (m := 53) rfl rfl rfl rfl rfl fun i hi => (by repeat rw [lget_ne _ _ (by omega)])⟩, rfl, Nat.zero_le _, rfl, rfl⟩⟩
                    · repeat' (first | exact trivial | exact .inl (DLe.refl _) | exact .inl (DLe.nil _ _) | (refine .inr ⟨rfl, _, ?_, rfl⟩; rfl) | exact rfl | exact Nat.zero_le _ | constructor)
                    · repeat' (first | exact trivial | exact .inl (DLe.refl _) | exact .inl (DLe.nil _ _) | (refine .inr ⟨rfl, _, ?_, rfl⟩; rfl) | exact rfl | exact Nat.zero_le _ | constructor)
              · conv => whnf
                refine ⟨?_, trivial⟩
                · conv => whnf
                  refine ⟨?_, trivial⟩
                  · conv => whnf
                    rw [hw]
                    refine ⟨[(53, 54)], [], ⟨?_, ⟨?_, coverH_self (m := 53) rfl rfl rfl rfl rfl fun i hi => (by repeat rw [lget_ne _ _ (by omega)])⟩, rfl, Nat.zero_le _, rfl, rfl⟩⟩
                    · repeat' (first | exact trivial | exact .inl (DLe.refl _) | exact .inl (DLe.nil _ _) | (refine .inr ⟨rfl, _, ?_, rfl⟩; rfl) | exact rfl | exact Nat.zero_le _ | constructor)
                    · repeat' (first | exact trivial | exact .inl (DLe.refl _) | exact .inl (DLe.nil _ _) | (refine .inr ⟨rfl, _, ?_, rfl⟩; rfl) | exact rfl | exact Nat.zero_le _ | constructor)
            · conv => whnf
              refine ⟨?_, ?_, trivial⟩
              · conv => whnf
                refine ⟨?_, trivial⟩
                · conv => whnf
                  refine ⟨?_, trivial⟩
                  · conv => whnf
                    rw [hw]
                    refine ⟨[(53, 54)], [], ⟨?_, ⟨?_, coverH_self (m := 53) rfl rfl rfl rfl rfl fun i hi => (by repeat rw [lget_ne _ _ (by omega)])⟩, rfl, Nat.zero_le _, rfl, rfl⟩⟩
                    · repeat' (first | exact trivial | exact .inl (DLe.refl _) | exact .inl (DLe.nil _ _) | (refine .inr ⟨rfl, _, ?_, rfl⟩; rfl) | exact rfl | exact Nat.zero_le _ | constructor)
                    · repeat' (first | exact trivial | exact .inl (DLe.refl _) | exact .inl (DLe.nil _ _) | (refine .inr ⟨rfl, _, ?_, rfl⟩; rfl) | exact rfl | exact Nat.zero_le _ | constructor)
              · conv => whnf
                refine ⟨?_, trivial⟩
                · conv => whnf
                  refine ⟨?_, trivial⟩
                  · conv => whnf
                    rw [hw]
                    refine ⟨[(53, 54)], [], ⟨?_, ⟨?_, coverH_self (m := 53) rfl rfl rfl rfl rfl fun i hi => (by repeat rw [lget_ne _ _ (by omega)])⟩, rfl, Nat.zero_le _, rfl, rfl⟩⟩
                    · repeat' (first | exact trivial | exact .inl (DLe.refl _) | exact .inl (DLe.nil _ _) | (refine .inr ⟨rfl, _, ?_, rfl⟩; rfl) | exact rfl | exact Nat.zero_le _ | constructor)
                    · repeat' (first | exact trivial | exact .inl (DLe.refl _) | exact .inl (DLe.nil _ _) | (refine .inr ⟨rfl, _, ?_, rfl⟩; rfl) | exact rfl | exact Nat.zero_le _ | constructor)
          · conv => whnf
            refine ⟨?_, ?_, ?_, trivial⟩
            · conv => whnf
              refine ⟨?_, ?_, trivial⟩
              · conv => whnf
                refine ⟨?_, trivial⟩
                · conv => whnf
                  refine CallVC.pure hin rfl ?_
                  rintro _ rfl
                  conv => whnf
                  refine ⟨?_, trivial⟩
                  · conv => whnf
                    rw [hw]
                    refine ⟨[(53, 54)], [], ⟨?_, ⟨?_, coverH_self (m := 53) rfl rfl rfl rfl rfl fun i hi => (by repeat rw [lget_ne _ _ (by omega)])⟩, rfl, Nat.zero_le _, rfl, rfl⟩⟩
                    · repeat' (first | exact trivial | exact .inl (DLe.refl _) | exact .inl (DLe.nil _ _) | (refine .inr ⟨rfl, _, ?_, rfl⟩; rfl) | exact rfl | exact Nat.zero_le _ | constructor)
                    · repeat' (first | exact trivial | exact .inl (DLe.refl _) | exact .inl (DLe.nil _ _) | (refine .inr ⟨rfl, _, ?_, rfl⟩; rfl) | exact rfl | exact Nat.zero_le _ | constructor)
              · conv => whnf
                refine CallVC.pure hin rfl ?_
                rintro _ rfl
                conv => whnf
                refine ⟨?_, trivial⟩
                · conv => whnf
                  refine ⟨?_, trivial⟩
                  · conv => whnf
                    rw [hw]
                    refine ⟨[(53, 54)], [], ⟨?_, ⟨?_, coverH_self (m := 53) rfl rfl rfl rfl rfl fun i hi => (by repeat rw [lget_ne _ _ (by omega)])⟩, rfl, Nat.zero_le _, rfl, rfl⟩⟩
                    · repeat' (first | exact trivial | exact .inl (DLe.refl _) | exact .inl (DLe.nil _ _) | (refine .inr ⟨rfl, _, ?_, rfl⟩; rfl) | exact rfl | exact Nat.zero_le _ | constructor)
                    · repeat' (first | exact trivial | exact .inl (DLe.refl _) | exact .inl (DLe.nil _ _) | (refine .inr ⟨rfl, _, ?_, rfl⟩; rfl) | exact rfl | exact Nat.zero_le _ | constructor)
            · conv => whnf
              refine ⟨?_, ?_, trivial⟩
              · conv => whnf
                refine ⟨?_, trivial⟩
                · conv => whnf
                  refine CallVC.pure hin rfl ?_
                  rintro _ rfl
                  conv => whnf
                  refine ⟨?_, trivial⟩
                  · conv => whnf
                    rw [hw]
                    refine ⟨[(53, 54)], [], ⟨?_, ⟨?_, coverH_self (m := 53) rfl rfl rfl rfl rfl fun i hi => (by repeat rw [lget_ne _ _ (by omega)])⟩, rfl, Nat.zero_le _, rfl, rfl⟩⟩
                    · repeat' (first | exact trivial | exact .inl (DLe.refl _) | exact .inl (DLe.nil _ _) | (refine .inr ⟨rfl, _, ?_, rfl⟩; rfl) | exact rfl | exact Nat.zero_le _ | constructor)
                    · repeat' (first | exact trivial | exact .inl (DLe.refl _) | exact .inl (DLe.nil _ _) | (refine .inr ⟨rfl, _, ?_, rfl⟩; rfl) | exact rfl | exact Nat.zero_le _ | constructor)
              · conv => whnf
                refine CallVC.pure hin rfl ?_
                rintro _ rfl
                conv => whnf
                refine ⟨?_, trivial⟩
                · conv => whnf
                  refine ⟨?_, trivial⟩
                  · conv => whnf
                    rw [hw]
                    refine ⟨[(53, 54)], [], ⟨?_, ⟨?_, coverH_self (m := 53) rfl rfl rfl rfl rfl fun i hi => (by repeat rw [lget_ne _ _ (by omega)])⟩, rfl, Nat.zero_le _, rfl, rfl⟩⟩
                    · repeat' (first | exact trivial | exact .inl (DLe.refl _) | exact .inl (DLe.nil _ _) | (refine .inr ⟨rfl, _, ?_, rfl⟩; rfl) | exact rfl | exact Nat.zero_le _ | constructor)
                    · repeat' (first | exact trivial | exact .inl (DLe.refl _) | exact .inl (DLe.nil _ _) | (refine .inr ⟨rfl, _, ?_, rfl⟩; rfl) | exact rfl | exact Nat.zero_le _ | constructor)
            · conv => whnf
              refine CallVC.pure hin rfl ?_
              rintro _ rfl
              conv => whnf
              refine ⟨?_, ?_, trivial⟩
              · conv => whnf
                refine ⟨?_, trivial⟩
                · conv => whnf
                  refine ⟨?_, trivial⟩
                  · conv => whnf
                    rw [hw]
                    refine ⟨[(53, 54)], [], ⟨?_, ⟨?_, coverH_self (m := 53) rfl rfl rfl rfl rfl fun i hi => (by repeat rw [lget_ne _ _ (by omega)])⟩, rfl, Nat.zero_le _, rfl, rfl⟩⟩
                    · repeat' (first | exact trivial | exact .inl (DLe.refl _) | exact .inl (DLe.nil _ _) | (refine .inr ⟨rfl, _, ?_, rfl⟩; rfl) | exact rfl | exact Nat.zero_le _ | constructor)
                    · repeat' (first | exact trivial | exact .inl (DLe.refl _) | exact .inl (DLe.nil _ _) | (refine .inr ⟨rfl, _, ?_, rfl⟩; rfl) | exact rfl | exact Nat.zero_le _ | constructor)
              · conv => whnf
                refine ⟨?_, trivial⟩
                · conv => whnf
                  refine ⟨?_, trivial⟩
                  · conv => whnf
                    rw [hw]
                    refine ⟨[(53, 54)], [], ⟨?_, ⟨?_, coverH_self (m := 53) rfl rfl rfl rfl rfl fun i hi => (by repeat rw [lget_ne _ _ (by omega)])⟩, rfl, Nat.zero_le _, rfl, rfl⟩⟩
                    · repeat' (first | exact trivial | exact .inl (DLe.refl _) | exact .inl (DLe.nil _ _) | (refine .inr ⟨rfl, _, ?_, rfl⟩; rfl) | exact rfl | exact Nat.zero_le _ | constructor)
                    · repeat' (first | exact trivial | exact .inl (DLe.refl _) | exact .inl (DLe.nil _ _) | (refine .inr ⟨rfl, _, ?_, rfl⟩; rfl) | exact rfl | exact Nat.zero_le _ | constructor)
        · conv => whnf
          refine ⟨?_, ?_, ?_, trivial⟩
          · conv => whnf
            refine ⟨?_, ?_, trivial⟩
            · conv => whnf
              refine ⟨?_, trivial⟩
              · conv => whnf
                refine ⟨?_, trivial⟩
                · conv => whnf
                  refine CallVC.pure hin rfl ?_
                  rintro _ rfl
                  conv => whnf
                  refine ⟨?_, trivial⟩
                  · conv => whnf
                    rw [hw]
                    refine ⟨[(53, 54)], [], ⟨?_, ⟨?_, coverH_self (m := 53) rfl rfl rfl rfl rfl fun i hi => (by repeat rw [lget_ne _ _ (by omega)])⟩, rfl, Nat.zero_le _, rfl, rfl⟩⟩
                    · repeat' (first | exact trivial | exact .inl (DLe.refl _) | exact .inl (DLe.nil _ _) | (refine .inr ⟨rfl, _, ?_, rfl⟩; rfl) | exact rfl | exact Nat.zero_le _ | constructor)
                    · repeat' (first | exact trivial | exact .inl (DLe.refl _) | exact .inl (DLe.nil _ _) | (refine .inr ⟨rfl, _, ?_, rfl⟩; rfl) | exact rfl | exact Nat.zero_le _ | constructor)
            · conv => whnf
              refine ⟨?_, ?_, trivial⟩
              · conv => whnf
                refine ⟨?_, trivial⟩
                · conv => whnf
                  refine CallVC.pure hin rfl ?_
                  rintro _ rfl
                  conv => whnf
                  refine ⟨?_, trivial⟩
                  · conv => whnf
                    rw [hw]
                    refine ⟨[(53, 54)], [], ⟨?_, ⟨?_, coverH_self (m := 53) rfl rfl rfl rfl rfl fun i hi => (by repeat rw [lget_ne _ _ (by omega)])⟩, rfl, Nat.zero_le _, rfl, rfl⟩⟩
                    · repeat' (first | exact trivial | exact .inl (DLe.refl _) | exact .inl (DLe.nil _ _) | (refine .inr ⟨rfl, _, ?_, rfl⟩; rfl) | exact rfl | exact Nat.zero_le _ | constructor)
                    · repeat' (first | exact trivial | exact .inl (DLe.refl _) | exact .inl (DLe.nil _ _) | (refine .inr ⟨rfl, _, ?_, rfl⟩; rfl) | exact rfl | exact Nat.zero_le _ | constructor)
              · conv => whnf
                refine CallVC.pure hin rfl ?_
                rintro _ rfl
                conv => whnf
                refine ⟨?_, trivial⟩
                · conv => whnf
                  refine ⟨?_, trivial⟩
                  · conv => whnf
                    rw [hw]
                    refine ⟨[(53, 54)], [], ⟨?_, ⟨?_, coverH_self (m := 53) rfl rfl rfl rfl rfl fun i hi => (by repeat rw [lget_ne _ _ (by omega)])⟩, rfl, Nat.zero_le _, rfl, rfl⟩⟩
                    · repeat' (first | exact trivial | exact .inl (DLe.refl _) | exact .inl (DLe.nil _ _) | (refine .inr ⟨rfl, _, ?_, rfl⟩; rfl) | exact rfl | exact Nat.zero_le _ | constructor)
                    · repeat' (first | exact trivial | exact .inl (DLe.refl _) | exact .inl (DLe.nil _ _) | (refine .inr ⟨rfl, _, ?_, rfl⟩; rfl) | exact rfl | exact Nat.zero_le _ | constructor)
          · conv => whnf
            refine ⟨?_, ?_, trivial⟩
            · conv => whnf
              refine ⟨?_, trivial⟩
              · conv => whnf
                refine ⟨?_, trivial⟩
                · conv => whnf
                  refine CallVC.pure hin rfl ?_
                  rintro _ rfl
                  conv => whnf
                  refine ⟨?_, trivial⟩
                  · conv => whnf
                    rw [hw]
                    refine ⟨[(53, 54)], [], ⟨?_, ⟨?_, coverH_self (m := 53) rfl rfl rfl rfl rfl fun i hi => (by repeat rw [lget_ne _ _ (by omega)])⟩, rfl, Nat.zero_le _, rfl, rfl⟩⟩
                    · repeat' (first | exact trivial | exact .inl (DLe.refl _) | exact .inl (DLe.nil _ _) | (refine .inr ⟨rfl, _, ?_, rfl⟩; rfl) | exact rfl | exact Nat.zero_le _ | constructor)
                    · repeat' (first | exact trivial | exact .inl (DLe.refl _) | exact .inl (DLe.nil _ _) | (refine .inr ⟨rfl, _, ?_, rfl⟩; rfl) | exact rfl | exact Nat.zero_le _ | constructor)
            · conv => whnf
              refine ⟨?_, ?_, trivial⟩
              · conv => whnf
                refine ⟨?_, trivial⟩
                · conv => whnf
                  refine CallVC.pure hin rfl ?_
                  rintro _ rfl
                  conv => whnf
                  refine ⟨?_, trivial⟩
                  · conv => whnf
                    rw [hw]
                    refine ⟨[(53, 54)], [], ⟨?_, ⟨?_, coverH_self (m := 53) rfl rfl rfl rfl rfl fun i hi => (by repeat rw [lget_ne _ _ (by omega)])⟩, rfl, Nat.zero_le _, rfl, rfl⟩⟩
                    · repeat' (first | exact trivial | exact .inl (DLe.refl _) | exact .inl (DLe.nil _ _) | (refine .inr ⟨rfl, _, ?_, rfl⟩; rfl) | exact rfl | exact Nat.zero_le _ | constructor)
                    · repeat' (first | exact trivial | exact .inl (DLe.refl _) | exact .inl (DLe.nil _ _) | (refine .inr ⟨rfl, _, ?_, rfl⟩; rfl) | exact rfl | exact Nat.zero_le _ | constructor)
              · conv => whnf
                refine CallVC.pure hin rfl ?_
                rintro _ rfl
                conv => whnf
                refine ⟨?_, trivial⟩
                · conv => whnf
                  refine ⟨?_, trivial⟩
                  · conv => whnf
                    rw [hw]
                    refine ⟨[(53, 54)], [], ⟨?_, ⟨?_, coverH_self (m := 53) rfl rfl rfl rfl rfl fun i hi => (by repeat rw [lget_ne _ _ (by omega)])⟩, rfl, Nat.zero_le _, rfl, rfl⟩⟩
                    · repeat' (first | exact trivial | exact .inl (DLe.refl _) | exact .inl (DLe.nil _ _) | (refine .inr ⟨rfl, _, ?_, rfl⟩; rfl) | exact rfl | exact Nat.zero_le _ | constructor)
                    · repeat' (first | exact trivial | exact .inl (DLe.refl _) | exact .inl (DLe.nil _ _) | (refine .inr ⟨rfl, _, ?_, rfl⟩; rfl) | exact rfl | exact Nat.zero_le _ | constructor)
          · conv => whnf
            refine ⟨?_, ?_, ?_, trivial⟩
            · conv => whnf
              refine ⟨?_, ?_, trivial⟩
              · conv => whnf
                refine ⟨?_, trivial⟩
                · conv => whnf
                  refine CallVC.pure hin rfl ?_
                  rintro _ rfl
                  conv => whnf
                  refine ⟨?_, trivial⟩
                  · conv => whnf
                    rw [hw]
                    refine ⟨[(53, 54)], [], ⟨?_, ⟨?_, coverH_self (m := 53) rfl rfl rfl rfl rfl fun i hi => (by repeat rw [lget_ne _ _ (by omega)])⟩, rfl, Nat.zero_le _, rfl, rfl⟩⟩
                    · repeat' (first | exact trivial | exact .inl (DLe.refl _) | exact .inl (DLe.nil _ _) | (refine .inr ⟨rfl, _, ?_, rfl⟩; rfl) | exact rfl | exact Nat.zero_le _ | constructor)
                    · repeat' (first | exact trivial | exact .inl (DLe.refl _) | exact .inl (DLe.nil _ _) | (refine .inr ⟨rfl, _, ?_, rfl⟩; rfl) | exact rfl | exact Nat.zero_le _ | constructor)
              · conv => whnf
                refine CallVC.pure hin rfl ?_
                rintro _ rfl
                conv => whnf
                refine ⟨?_, trivial⟩
                · conv => whnf
                  refine ⟨?_, trivial⟩
                  · conv => whnf
                    rw [hw]
                    refine ⟨[(53, 54)], [], ⟨?_, ⟨?_, coverH_self (m := 53) rfl rfl rfl rfl rfl fun i hi => (by repeat rw [lget_ne _ _ (by omega)])⟩, rfl, Nat.zero_le _, rfl, rfl⟩⟩
                    · repeat' (first | exact trivial | exact .inl (DLe.refl _) | exact .inl (DLe.nil _ _) | (refine .inr ⟨rfl, _, ?_, rfl⟩; rfl) | exact rfl | exact Nat.zero_le _ | constructor)
                    · repeat' (first | exact trivial | exact .inl (DLe.refl _) | exact .inl (DLe.nil _ _) | (refine .inr ⟨rfl, _, ?_, rfl⟩; rfl) | exact rfl | exact Nat.zero_le _ | constructor)
            · conv => whnf
              refine ⟨?_, ?_, trivial⟩
              · conv => whnf
                refine ⟨?_, trivial⟩
                · conv => whnf
                  refine CallVC.pure hin rfl ?_
                  rintro _ rfl
                  conv => whnf
                  refine ⟨?_, trivial⟩
                  · conv => whnf
                    rw [hw]
                    refine ⟨[(53, 54)], [], ⟨?_, ⟨?_, coverH_self (m := 53) rfl rfl rfl rfl rfl fun i hi => (by repeat rw [lget_ne _ _ (by omega)])⟩, rfl, Nat.zero_le _, rfl, rfl⟩⟩
                    · repeat' (first | exact trivial | exact .inl (DLe.refl _) | exact .inl (DLe.nil _ _) | (refine .inr ⟨rfl, _, ?_, rfl⟩; rfl) | exact rfl | exact Nat.zero_le _ | constructor)
                    · repeat' (first | exact trivial | exact .inl (DLe.refl _) | exact .inl (DLe.nil _ _) | (refine .inr ⟨rfl, _, ?_, rfl⟩; rfl) | exact rfl | exact Nat.zero_le _ | constructor)
              · conv => whnf
                refine CallVC.pure hin rfl ?_
                rintro _ rfl
                conv => whnf
                refine ⟨?_, trivial⟩
                · conv => whnf
                  refine ⟨?_, trivial⟩
                  · conv => whnf
                    rw [hw]
                    refine ⟨[(53, 54)], [], ⟨?_, ⟨?_, coverH_self (m := 53) rfl rfl rfl rfl rfl fun i hi => (by repeat rw [lget_ne _ _ (by omega)])⟩, rfl, Nat.zero_le _, rfl, rfl⟩⟩
                    · repeat' (first | exact trivial | exact .inl (DLe.refl _) | exact .inl (DLe.nil _ _) | (refine .inr ⟨rfl, _, ?_, rfl⟩; rfl) | exact rfl | exact Nat.zero_le _ | constructor)
                    · repeat' (first | exact trivial | exact .inl (DLe.refl _) | exact .inl (DLe.nil _ _) | (refine .inr ⟨rfl, _, ?_, rfl⟩; rfl) | exact rfl | exact Nat.zero_le _ | constructor)
            · conv => whnf
              refine CallVC.pure hin rfl ?_
              rintro _ rfl
              conv => whnf
              refine ⟨?_, ?_, trivial⟩
              · conv => whnf
                refine ⟨?_, trivial⟩
                · conv => whnf
                  refine ⟨?_, trivial⟩
                  · conv => whnf
                    rw [hw]
                    refine ⟨[(53, 54)], [], ⟨?_, ⟨?_, coverH_self (m := 53) rfl rfl rfl rfl rfl fun i hi => (by repeat rw [lget_ne _ _ (by omega)])⟩, rfl, Nat.zero_le _, rfl, rfl⟩⟩
                    · repeat' (first | exact trivial | exact .inl (DLe.refl _) | exact .inl (DLe.nil _ _) | (refine .inr ⟨rfl, _, ?_, rfl⟩; rfl) | exact rfl | exact Nat.zero_le _ | constructor)
                    · repeat' (first | exact trivial | exact .inl (DLe.refl _) | exact .inl (DLe.nil _ _) | (refine .inr ⟨rfl, _, ?_, rfl⟩; rfl) | exact rfl | exact Nat.zero_le _ | constructor)
              · conv => whnf
                refine ⟨?_, trivial⟩
                · conv => whnf
                  refine ⟨?_, trivial⟩
                  · conv => whnf
                    rw [hw]
                    refine ⟨[(53, 54)], [], ⟨?_, ⟨?_, coverH_self (m := 53) rfl rfl rfl rfl rfl fun i hi => (by repeat rw [lget_ne _ _ (by omega)])⟩, rfl, Nat.zero_le _, rfl, rfl⟩⟩
                    · repeat' (first | exact trivial | exact .inl (DLe.refl _) | exact .inl (DLe.nil _ _) | (refine .inr ⟨rfl, _, ?_, rfl⟩; rfl) | exact rfl | exact Nat.zero_le _ | constructor)
                    · repeat' (first | exact trivial | exact .inl (DLe.refl _) | exact .inl (DLe.nil _ _) | (refine .inr ⟨rfl, _, ?_, rfl⟩; rfl) | exact rfl | exact Nat.zero_le _ | constructor)
      conv => whnf
      have hset := rset_ob now L ⟨x.id, now + cx⟩ (by omega) ⟨hp0, by omega⟩
      have hqe := setq_eq hi ⟨x.id, now + cx⟩
      have hi2 := hi.setu ⟨x.id, now + cx⟩ c
      have hs2 : Sorted (setL now L ⟨x.id, now + cx⟩) := setL_sorted hs
      have hL2 := setL_len now L ⟨x.id, now + cx⟩
      have hd2 : ∀ y, y ∈ setL now L ⟨x.id, now + cx⟩ → y.at_ ≤ 1073741824 + 4095 * (((k + 1 : Nat) : Int) + 1) := fun y hy => by
        rcases setL_mem hy with h | ⟨h, h'⟩
        · have := hdue y h; omega
        · rw [h]; have h' : now + cx ≤ now + 4095 := h'; show now + cx ≤ _; omega
      rw [hqe] at hset
      refine ⟨⟨[(66, boolD false), (9, intD k), (8, .loc 2 0), (7, .loc 0 0), (2, intD look), (1, rowsE l)], WH now (setRr now R M ⟨x.id, now + cx⟩) T U (setMm now M ⟨x.id, now + cx⟩ c) (setCc now M ⟨x.id, now + cx⟩ c) (docO now (setL now L ⟨x.id, now + cx⟩)), 53, ([], 0)⟩, ?_, ?_⟩
      · conv => whnf
        refine ⟨?_, ?_, trivial⟩
        · conv => whnf
          refine ⟨?_, ?_, trivial⟩
          · conv => whnf
            refine CallVC.cov (args1 := [.loc 0 0, .agg (alD ⟨x.id, now + cx⟩)]) [] [] ⟨(11, .loc 53 0) :: [(63, .loc 2 0), (9, intD k), (8, .loc 2 0), (7, .loc 0 0), (2, intD look), (1, rowsE l)], (53, .cells 58 (alD ⟨x.id, now + cx⟩)) :: WH now R T U M c (docO now L), 54, ([], 0)⟩ ?_ ?_ (CallVC.frame rfl rfl rfl rfl rfl rfl rfl (set_u _ now R T U M c _ _ ⟨x.id, now + cx⟩ (by rfl) rfl (doc_ho _ _) ⟨hp0, by omega⟩ (by show now + cx ≤ _; omega) (fun j => by have := hi.rows_len j; omega) ?_))
            · repeat' (first | exact trivial | exact .inl (DLe.refl _) | exact .inl (DLe.nil _ _) | (refine .inr ⟨rfl, _, ?_, rfl⟩; rfl) | exact rfl | exact Nat.zero_le _ | constructor)
            · repeat' (first | exact trivial | exact .inl (DLe.refl _) | exact .inl (DLe.nil _ _) | (refine .inr ⟨rfl, _, ?_, rfl⟩; rfl) | exact rfl | exact Nat.zero_le _ | constructor)
            · conv => whnf
              refine ⟨?_, trivial⟩
              conv => whnf
              refine ⟨?_, trivial⟩
              conv => whnf
              refine CallVC.ob hset rfl rfl rfl ?_
              rintro _ _ ⟨rfl, rfl⟩
              conv => whnf
              rw [show (!(setW now M ⟨x.id, now + cx⟩ == setW now M ⟨x.id, now + cx⟩)) = false by simp]
              refine ⟨[], [], ?_⟩
              repeat' (first | exact trivial | exact .inl (DLe.refl _) | exact .inl (DLe.nil _ _) | (refine .inr ⟨rfl, _, ?_, rfl⟩; rfl) | exact rfl | exact Nat.zero_le _ | constructor)
          · conv => whnf
            refine ⟨?_, trivial⟩
            conv => whnf
            refine CallVC.cov (args1 := [.loc 0 0, .agg (alD ⟨x.id, now + cx⟩)]) [] [] ⟨[(64, .agg (alD ⟨x.id, now + cx⟩)), (63, .loc 2 0), (9, intD k), (8, .loc 2 0), (7, .loc 0 0), (2, intD look), (1, rowsE l)], WH now R T U M c (docO now L), 53, ([], 0)⟩ ?_ ?_ (set_u _ now R T U M c _ _ ⟨x.id, now + cx⟩ (by rfl) rfl (doc_ho _ _) ⟨hp0, by omega⟩ (by show now + cx ≤ _; omega) (fun j => by have := hi.rows_len j; omega) ?_)
            · repeat' (first | exact trivial | exact .inl (DLe.refl _) | exact .inl (DLe.nil _ _) | (refine .inr ⟨rfl, _, ?_, rfl⟩; rfl) | exact rfl | exact Nat.zero_le _ | constructor)
            · repeat' (first | exact trivial | exact .inl (DLe.refl _) | exact .inl (DLe.nil _ _) | (refine .inr ⟨rfl, _, ?_, rfl⟩; rfl) | exact rfl | exact Nat.zero_le _ | constructor)
            · conv => whnf
              refine ⟨?_, trivial⟩
              conv => whnf
              refine CallVC.ob hset rfl rfl rfl ?_
              rintro _ _ ⟨rfl, rfl⟩
              conv => whnf
              rw [show (!(setW now M ⟨x.id, now + cx⟩ == setW now M ⟨x.id, now + cx⟩)) = false by simp]
              refine ⟨[], [], ?_⟩
              repeat' (first | exact trivial | exact .inl (DLe.refl _) | exact .inl (DLe.nil _ _) | (refine .inr ⟨rfl, _, ?_, rfl⟩; rfl) | exact rfl | exact Nat.zero_le _ | constructor)
        · conv => whnf
          refine ⟨?_, trivial⟩
          conv => whnf
          refine ⟨?_, trivial⟩
          conv => whnf
          refine CallVC.cov (args1 := [.loc 0 0, .agg (alD ⟨x.id, now + cx⟩)]) [] [] ⟨[(64, .agg (alD ⟨x.id, now + cx⟩)), (63, .loc 2 0), (9, intD k), (8, .loc 2 0), (7, .loc 0 0), (2, intD look), (1, rowsE l)], WH now R T U M c (docO now L), 53, ([], 0)⟩ ?_ ?_ (set_u _ now R T U M c _ _ ⟨x.id, now + cx⟩ (by rfl) rfl (doc_ho _ _) ⟨hp0, by omega⟩ (by show now + cx ≤ _; omega) (fun j => by have := hi.rows_len j; omega) ?_)
          · repeat' (first | exact trivial | exact .inl (DLe.refl _) | exact .inl (DLe.nil _ _) | (refine .inr ⟨rfl, _, ?_, rfl⟩; rfl) | exact rfl | exact Nat.zero_le _ | constructor)
          · repeat' (first | exact trivial | exact .inl (DLe.refl _) | exact .inl (DLe.nil _ _) | (refine .inr ⟨rfl, _, ?_, rfl⟩; rfl) | exact rfl | exact Nat.zero_le _ | constructor)
          · conv => whnf
            refine ⟨?_, trivial⟩
            conv => whnf
            refine CallVC.ob hset rfl rfl rfl ?_
            rintro _ _ ⟨rfl, rfl⟩
            conv => whnf
            rw [show (!(setW now M ⟨x.id, now + cx⟩ == setW now M ⟨x.id, now + cx⟩)) = false by simp]
            refine ⟨[], [], ?_⟩
            repeat' (first | exact trivial | exact .inl (DLe.refl _) | exact .inl (DLe.nil _ _) | (refine .inr ⟨rfl, _, ?_, rfl⟩; rfl) | exact rfl | exact Nat.zero_le _ | constructor)
      conv => whnf
      refine CallVC.cov (args1 := [.loc 0 0, intD look]) [] [] ⟨[(9, intD k), (8, .loc 2 0), (7, .loc 0 0), (2, intD look), (1, rowsE l)], WH now (setRr now R M ⟨x.id, now + cx⟩) T U (setMm now M ⟨x.id, now + cx⟩ c) (setCc now M ⟨x.id, now + cx⟩ c) (docO now (setL now L ⟨x.id, now + cx⟩)), 53, ([], 0)⟩ ?_ ?_ (at_vc _ now (setRr now R M ⟨x.id, now + cx⟩) T U (setMm now M ⟨x.id, now + cx⟩ c) (setCc now M ⟨x.id, now + cx⟩ c) _ _ look rfl rfl (doc_ho _ _) ?_)
      · repeat' (first | exact trivial | exact .inl (DLe.refl _) | exact .inl (DLe.nil _ _) | (refine .inr ⟨rfl, _, ?_, rfl⟩; rfl) | exact rfl | exact Nat.zero_le _ | constructor)
      · repeat' (first | exact trivial | exact .inl (DLe.refl _) | exact .inl (DLe.nil _ _) | (refine .inr ⟨rfl, _, ?_, rfl⟩; rfl) | exact rfl | exact Nat.zero_le _ | constructor)
      conv => whnf
      refine CallVC.look (rfind_rd now (setL now L ⟨x.id, now + cx⟩) look (by omega)) rfl ?_
      rintro _ rfl
      conv => whnf
      have hdl : (!decide ((((setMm now M ⟨x.id, now + cx⟩ c)).length : Int) = ((setL now L ⟨x.id, now + cx⟩)).length)) = false := by rw [hi2.len]; simp
      refine ⟨⟨[(132, boolD false), (9, intD k), (8, .loc 2 0), (7, .loc 0 0), (2, intD look), (1, rowsE l)], WH now (setRr now R M ⟨x.id, now + cx⟩) T U (setMm now M ⟨x.id, now + cx⟩ c) (setCc now M ⟨x.id, now + cx⟩ c) (docO now (setL now L ⟨x.id, now + cx⟩)), 53, ([], 0)⟩, ?_, ?_⟩
      · rcases look_cases hi2 look with ⟨q1, q2⟩ | ⟨kk, y, q1, q2, q3⟩
        · rw [q1, q2]
          conv => whnf
          refine ⟨?_, trivial⟩
          conv => whnf
          refine ⟨?_, trivial⟩
          conv => whnf
          refine ⟨?_, ?_, trivial⟩
          · conv => whnf
            refine CallVC.look (now_rd now _) rfl ?_
            rintro _ rfl
            conv => whnf
            refine ⟨?_, trivial⟩
            · conv => whnf
              rw [show (!decide (now = now)) = false by simp]
              conv => whnf
              refine ⟨?_, ?_, trivial⟩
              · conv => whnf
                refine len_rd now (setRr now R M ⟨x.id, now + cx⟩) T U (setMm now M ⟨x.id, now + cx⟩ c) (setCc now M ⟨x.id, now + cx⟩ c) _ _ _ rfl rfl (doc_ho _ _) ?_
                conv => whnf
                refine ⟨?_, trivial⟩
                · conv => whnf
                  refine ⟨?_, trivial⟩
                  · conv => whnf
                    rw [hdl]
                    refine ⟨[], [], ⟨?_, coverH_self (m := 53) rfl rfl rfl rfl rfl fun _ _ => rfl, rfl, Nat.zero_le _, rfl, rfl⟩⟩
                    repeat' (first | exact trivial | exact .inl (DLe.refl _) | exact .inl (DLe.nil _ _) | (refine .inr ⟨rfl, _, ?_, rfl⟩; rfl) | exact rfl | exact Nat.zero_le _ | constructor)
              · conv => whnf
                refine ⟨?_, ?_, trivial⟩
                · conv => whnf
                  refine len_rd now (setRr now R M ⟨x.id, now + cx⟩) T U (setMm now M ⟨x.id, now + cx⟩ c) (setCc now M ⟨x.id, now + cx⟩ c) _ _ _ rfl rfl (doc_ho _ _) ?_
                  conv => whnf
                  refine ⟨?_, trivial⟩
                  · conv => whnf
                    rw [hdl]
                    refine ⟨[], [], ⟨?_, coverH_self (m := 53) rfl rfl rfl rfl rfl fun _ _ => rfl, rfl, Nat.zero_le _, rfl, rfl⟩⟩
                    repeat' (first | exact trivial | exact .inl (DLe.refl _) | exact .inl (DLe.nil _ _) | (refine .inr ⟨rfl, _, ?_, rfl⟩; rfl) | exact rfl | exact Nat.zero_le _ | constructor)
                · conv => whnf
                  refine ⟨?_, trivial⟩
                  · conv => whnf
                    refine len_rd now (setRr now R M ⟨x.id, now + cx⟩) T U (setMm now M ⟨x.id, now + cx⟩ c) (setCc now M ⟨x.id, now + cx⟩ c) _ _ _ rfl rfl (doc_ho _ _) ?_
                    conv => whnf
                    rw [hdl]
                    refine ⟨[], [], ⟨?_, coverH_self (m := 53) rfl rfl rfl rfl rfl fun _ _ => rfl, rfl, Nat.zero_le _, rfl, rfl⟩⟩
                    repeat' (first | exact trivial | exact .inl (DLe.refl _) | exact .inl (DLe.nil _ _) | (refine .inr ⟨rfl, _, ?_, rfl⟩; rfl) | exact rfl | exact Nat.zero_le _ | constructor)
          · conv => whnf
            refine ⟨?_, trivial⟩
            · conv => whnf
              refine CallVC.look (now_rd now _) rfl ?_
              rintro _ rfl
              conv => whnf
              rw [show (!decide (now = now)) = false by simp]
              conv => whnf
              refine ⟨?_, ?_, trivial⟩
              · conv => whnf
                refine len_rd now (setRr now R M ⟨x.id, now + cx⟩) T U (setMm now M ⟨x.id, now + cx⟩ c) (setCc now M ⟨x.id, now + cx⟩ c) _ _ _ rfl rfl (doc_ho _ _) ?_
                conv => whnf
                refine ⟨?_, trivial⟩
                · conv => whnf
                  refine ⟨?_, trivial⟩
                  · conv => whnf
                    rw [hdl]
                    refine ⟨[], [], ⟨?_, coverH_self (m := 53) rfl rfl rfl rfl rfl fun _ _ => rfl, rfl, Nat.zero_le _, rfl, rfl⟩⟩
                    repeat' (first | exact trivial | exact .inl (DLe.refl _) | exact .inl (DLe.nil _ _) | (refine .inr ⟨rfl, _, ?_, rfl⟩; rfl) | exact rfl | exact Nat.zero_le _ | constructor)
              · conv => whnf
                refine ⟨?_, ?_, trivial⟩
                · conv => whnf
                  refine len_rd now (setRr now R M ⟨x.id, now + cx⟩) T U (setMm now M ⟨x.id, now + cx⟩ c) (setCc now M ⟨x.id, now + cx⟩ c) _ _ _ rfl rfl (doc_ho _ _) ?_
                  conv => whnf
                  refine ⟨?_, trivial⟩
                  · conv => whnf
                    rw [hdl]
                    refine ⟨[], [], ⟨?_, coverH_self (m := 53) rfl rfl rfl rfl rfl fun _ _ => rfl, rfl, Nat.zero_le _, rfl, rfl⟩⟩
                    repeat' (first | exact trivial | exact .inl (DLe.refl _) | exact .inl (DLe.nil _ _) | (refine .inr ⟨rfl, _, ?_, rfl⟩; rfl) | exact rfl | exact Nat.zero_le _ | constructor)
                · conv => whnf
                  refine ⟨?_, trivial⟩
                  · conv => whnf
                    refine len_rd now (setRr now R M ⟨x.id, now + cx⟩) T U (setMm now M ⟨x.id, now + cx⟩ c) (setCc now M ⟨x.id, now + cx⟩ c) _ _ _ rfl rfl (doc_ho _ _) ?_
                    conv => whnf
                    rw [hdl]
                    refine ⟨[], [], ⟨?_, coverH_self (m := 53) rfl rfl rfl rfl rfl fun _ _ => rfl, rfl, Nat.zero_le _, rfl, rfl⟩⟩
                    repeat' (first | exact trivial | exact .inl (DLe.refl _) | exact .inl (DLe.nil _ _) | (refine .inr ⟨rfl, _, ?_, rfl⟩; rfl) | exact rfl | exact Nat.zero_le _ | constructor)
        · have hkk := (List.getElem?_eq_some_iff.1 q2).1
          rw [q1, q3]
          conv => whnf
          rw [decide_eq_true (show (0 : Int) ≤ (kk : Int) by omega)]
          conv => whnf
          refine ⟨?_, trivial⟩
          conv => whnf
          refine ⟨rfl, ⟨by omega, by omega⟩, each_one q2 ?_⟩
          conv => whnf
          refine ⟨?_, trivial⟩
          conv => whnf
          rw [show (!decide ((some y.at_).getD 0 = y.at_)) = false by simp]
          conv => whnf
          refine ⟨?_, ?_, trivial⟩
          · conv => whnf
            refine CallVC.look (now_rd now _) rfl ?_
            rintro _ rfl
            conv => whnf
            refine ⟨?_, trivial⟩
            · conv => whnf
              rw [show (!decide (now = now)) = false by simp]
              conv => whnf
              refine ⟨?_, ?_, trivial⟩
              · conv => whnf
                refine len_rd now (setRr now R M ⟨x.id, now + cx⟩) T U (setMm now M ⟨x.id, now + cx⟩ c) (setCc now M ⟨x.id, now + cx⟩ c) _ _ _ rfl rfl (doc_ho _ _) ?_
                conv => whnf
                refine ⟨?_, trivial⟩
                · conv => whnf
                  refine ⟨?_, trivial⟩
                  · conv => whnf
                    rw [hdl]
                    refine ⟨[], [], ⟨?_, coverH_self (m := 53) rfl rfl rfl rfl rfl fun _ _ => rfl, rfl, Nat.zero_le _, rfl, rfl⟩⟩
                    repeat' (first | exact trivial | exact .inl (DLe.refl _) | exact .inl (DLe.nil _ _) | (refine .inr ⟨rfl, _, ?_, rfl⟩; rfl) | exact rfl | exact Nat.zero_le _ | constructor)
              · conv => whnf
                refine ⟨?_, ?_, trivial⟩
                · conv => whnf
                  refine len_rd now (setRr now R M ⟨x.id, now + cx⟩) T U (setMm now M ⟨x.id, now + cx⟩ c) (setCc now M ⟨x.id, now + cx⟩ c) _ _ _ rfl rfl (doc_ho _ _) ?_
                  conv => whnf
                  refine ⟨?_, trivial⟩
                  · conv => whnf
                    rw [hdl]
                    refine ⟨[], [], ⟨?_, coverH_self (m := 53) rfl rfl rfl rfl rfl fun _ _ => rfl, rfl, Nat.zero_le _, rfl, rfl⟩⟩
                    repeat' (first | exact trivial | exact .inl (DLe.refl _) | exact .inl (DLe.nil _ _) | (refine .inr ⟨rfl, _, ?_, rfl⟩; rfl) | exact rfl | exact Nat.zero_le _ | constructor)
                · conv => whnf
                  refine ⟨?_, trivial⟩
                  · conv => whnf
                    refine len_rd now (setRr now R M ⟨x.id, now + cx⟩) T U (setMm now M ⟨x.id, now + cx⟩ c) (setCc now M ⟨x.id, now + cx⟩ c) _ _ _ rfl rfl (doc_ho _ _) ?_
                    conv => whnf
                    rw [hdl]
                    refine ⟨[], [], ⟨?_, coverH_self (m := 53) rfl rfl rfl rfl rfl fun _ _ => rfl, rfl, Nat.zero_le _, rfl, rfl⟩⟩
                    repeat' (first | exact trivial | exact .inl (DLe.refl _) | exact .inl (DLe.nil _ _) | (refine .inr ⟨rfl, _, ?_, rfl⟩; rfl) | exact rfl | exact Nat.zero_le _ | constructor)
          · conv => whnf
            refine ⟨?_, trivial⟩
            · conv => whnf
              refine CallVC.look (now_rd now _) rfl ?_
              rintro _ rfl
              conv => whnf
              rw [show (!decide (now = now)) = false by simp]
              conv => whnf
              refine ⟨?_, ?_, trivial⟩
              · conv => whnf
                refine len_rd now (setRr now R M ⟨x.id, now + cx⟩) T U (setMm now M ⟨x.id, now + cx⟩ c) (setCc now M ⟨x.id, now + cx⟩ c) _ _ _ rfl rfl (doc_ho _ _) ?_
                conv => whnf
                refine ⟨?_, trivial⟩
                · conv => whnf
                  refine ⟨?_, trivial⟩
                  · conv => whnf
                    rw [hdl]
                    refine ⟨[], [], ⟨?_, coverH_self (m := 53) rfl rfl rfl rfl rfl fun _ _ => rfl, rfl, Nat.zero_le _, rfl, rfl⟩⟩
                    repeat' (first | exact trivial | exact .inl (DLe.refl _) | exact .inl (DLe.nil _ _) | (refine .inr ⟨rfl, _, ?_, rfl⟩; rfl) | exact rfl | exact Nat.zero_le _ | constructor)
              · conv => whnf
                refine ⟨?_, ?_, trivial⟩
                · conv => whnf
                  refine len_rd now (setRr now R M ⟨x.id, now + cx⟩) T U (setMm now M ⟨x.id, now + cx⟩ c) (setCc now M ⟨x.id, now + cx⟩ c) _ _ _ rfl rfl (doc_ho _ _) ?_
                  conv => whnf
                  refine ⟨?_, trivial⟩
                  · conv => whnf
                    rw [hdl]
                    refine ⟨[], [], ⟨?_, coverH_self (m := 53) rfl rfl rfl rfl rfl fun _ _ => rfl, rfl, Nat.zero_le _, rfl, rfl⟩⟩
                    repeat' (first | exact trivial | exact .inl (DLe.refl _) | exact .inl (DLe.nil _ _) | (refine .inr ⟨rfl, _, ?_, rfl⟩; rfl) | exact rfl | exact Nat.zero_le _ | constructor)
                · conv => whnf
                  refine ⟨?_, trivial⟩
                  · conv => whnf
                    refine len_rd now (setRr now R M ⟨x.id, now + cx⟩) T U (setMm now M ⟨x.id, now + cx⟩ c) (setCc now M ⟨x.id, now + cx⟩ c) _ _ _ rfl rfl (doc_ho _ _) ?_
                    conv => whnf
                    rw [hdl]
                    refine ⟨[], [], ⟨?_, coverH_self (m := 53) rfl rfl rfl rfl rfl fun _ _ => rfl, rfl, Nat.zero_le _, rfl, rfl⟩⟩
                    repeat' (first | exact trivial | exact .inl (DLe.refl _) | exact .inl (DLe.nil _ _) | (refine .inr ⟨rfl, _, ?_, rfl⟩; rfl) | exact rfl | exact Nat.zero_le _ | constructor)
      · conv => whnf
        rw [hwk]
        refine ⟨⟨k + 1, ⟨now, (setRr now R M ⟨x.id, now + cx⟩), T, U, (setMm now M ⟨x.id, now + cx⟩ c), (setL now L ⟨x.id, now + cx⟩)⟩, (setCc now M ⟨x.id, now + cx⟩ c)⟩, [], [], ⟨?_, coverH_self (m := 53) rfl rfl rfl rfl rfl fun _ _ => rfl, rfl, Nat.zero_le _, rfl, rfl⟩, ⟨by show k + 1 ≤ _; omega, by show k + 1 ≤ 40; omega, hi2, hs2, by show ((setL now L ⟨x.id, now + cx⟩)).length ≤ k + 1; omega, by show now ≤ 1073741824 + 4095 * ((k + 1 : Nat) : Int); omega, hd2⟩, by show l.length - (k + 1) < l.length - k; omega⟩
        repeat' (first | exact trivial | exact .inl (DLe.refl _) | exact .inl (DLe.nil _ _) | (refine .inr ⟨rfl, _, ?_, rfl⟩; rfl) | exact rfl | exact Nat.zero_le _ | constructor)
    | false =>
      conv => whnf
      cases hk1' : decide (x.kind = 1) with
      | true =>
        have hset := rstop_ob now L x.id (by omega) hi.keys
        have hi2 := hi.stop x.id
        have hs2 : Sorted (outOf x.id L) := List.Pairwise.sublist List.filter_sublist hs
        have hL2 := outOf_le x.id L
        have hd2 : ∀ y, y ∈ outOf x.id L → y.at_ ≤ 1073741824 + 4095 * (((k + 1 : Nat) : Int) + 1) := fun y hy => by
          have := hdue y (List.mem_filter.1 hy).1; omega
        conv => whnf
        refine ⟨⟨[(77, boolD false), (9, intD k), (8, .loc 2 0), (7, .loc 0 0), (2, intD look), (1, rowsE l)], WH now (fun j => outOf x.id (R j)) T U (mdel x.id M) c (docO now (outOf x.id L)), 53, ([], 0)⟩, ?_, ?_⟩
        · conv => whnf
          refine ⟨?_, ?_, trivial⟩
          · conv => whnf
            refine ⟨?_, ?_, trivial⟩
            · conv => whnf
              refine CallVC.cov (args1 := [.loc 0 0, intD x.id]) [] [] ⟨(74, .loc 53 1) :: [(73, .loc 2 0), (9, intD k), (8, .loc 2 0), (7, .loc 0 0), (2, intD look), (1, rowsE l)], (53, .cells 65 (deD x)) :: WH now R T U M c (docO now L), 54, ([], 0)⟩ ?_ ?_ (CallVC.frame rfl rfl rfl rfl rfl rfl rfl (stop_u _ now R T U M c _ _ x.id L (by rfl) rfl (doc_ho _ _) hi (by omega) ?_))
              · repeat' (first | exact trivial | exact .inl (DLe.refl _) | exact .inl (DLe.nil _ _) | (refine .inr ⟨rfl, _, ?_, rfl⟩; rfl) | exact rfl | exact Nat.zero_le _ | constructor)
              · repeat' (first | exact trivial | exact .inl (DLe.refl _) | exact .inl (DLe.nil _ _) | (refine .inr ⟨rfl, _, ?_, rfl⟩; rfl) | exact rfl | exact Nat.zero_le _ | constructor)
              · conv => whnf
                refine ⟨?_, trivial⟩
                conv => whnf
                refine ⟨?_, trivial⟩
                conv => whnf
                refine CallVC.ob hset rfl rfl rfl ?_
                rintro _ _ ⟨rfl, rfl⟩
                conv => whnf
                rw [show (!(L.any (isId x.id) == L.any (isId x.id))) = false by simp]
                refine ⟨[], [], ?_⟩
                repeat' (first | exact trivial | exact .inl (DLe.refl _) | exact .inl (DLe.nil _ _) | (refine .inr ⟨rfl, _, ?_, rfl⟩; rfl) | exact rfl | exact Nat.zero_le _ | constructor)
            · conv => whnf
              refine ⟨?_, trivial⟩
              conv => whnf
              refine CallVC.cov (args1 := [.loc 0 0, intD x.id]) [] [] ⟨[(75, intD x.id), (73, .loc 2 0), (9, intD k), (8, .loc 2 0), (7, .loc 0 0), (2, intD look), (1, rowsE l)], WH now R T U M c (docO now L), 53, ([], 0)⟩ ?_ ?_ (stop_u _ now R T U M c _ _ x.id L (by rfl) rfl (doc_ho _ _) hi (by omega) ?_)
              · repeat' (first | exact trivial | exact .inl (DLe.refl _) | exact .inl (DLe.nil _ _) | (refine .inr ⟨rfl, _, ?_, rfl⟩; rfl) | exact rfl | exact Nat.zero_le _ | constructor)
              · repeat' (first | exact trivial | exact .inl (DLe.refl _) | exact .inl (DLe.nil _ _) | (refine .inr ⟨rfl, _, ?_, rfl⟩; rfl) | exact rfl | exact Nat.zero_le _ | constructor)
              · conv => whnf
                refine ⟨?_, trivial⟩
                conv => whnf
                refine CallVC.ob hset rfl rfl rfl ?_
                rintro _ _ ⟨rfl, rfl⟩
                conv => whnf
                rw [show (!(L.any (isId x.id) == L.any (isId x.id))) = false by simp]
                refine ⟨[], [], ?_⟩
                repeat' (first | exact trivial | exact .inl (DLe.refl _) | exact .inl (DLe.nil _ _) | (refine .inr ⟨rfl, _, ?_, rfl⟩; rfl) | exact rfl | exact Nat.zero_le _ | constructor)
          · conv => whnf
            refine ⟨?_, trivial⟩
            conv => whnf
            refine ⟨?_, trivial⟩
            conv => whnf
            refine CallVC.cov (args1 := [.loc 0 0, intD x.id]) [] [] ⟨[(75, intD x.id), (73, .loc 2 0), (9, intD k), (8, .loc 2 0), (7, .loc 0 0), (2, intD look), (1, rowsE l)], WH now R T U M c (docO now L), 53, ([], 0)⟩ ?_ ?_ (stop_u _ now R T U M c _ _ x.id L (by rfl) rfl (doc_ho _ _) hi (by omega) ?_)
            · repeat' (first | exact trivial | exact .inl (DLe.refl _) | exact .inl (DLe.nil _ _) | (refine .inr ⟨rfl, _, ?_, rfl⟩; rfl) | exact rfl | exact Nat.zero_le _ | constructor)
            · repeat' (first | exact trivial | exact .inl (DLe.refl _) | exact .inl (DLe.nil _ _) | (refine .inr ⟨rfl, _, ?_, rfl⟩; rfl) | exact rfl | exact Nat.zero_le _ | constructor)
            · conv => whnf
              refine ⟨?_, trivial⟩
              conv => whnf
              refine CallVC.ob hset rfl rfl rfl ?_
              rintro _ _ ⟨rfl, rfl⟩
              conv => whnf
              rw [show (!(L.any (isId x.id) == L.any (isId x.id))) = false by simp]
              refine ⟨[], [], ?_⟩
              repeat' (first | exact trivial | exact .inl (DLe.refl _) | exact .inl (DLe.nil _ _) | (refine .inr ⟨rfl, _, ?_, rfl⟩; rfl) | exact rfl | exact Nat.zero_le _ | constructor)
        conv => whnf
        refine CallVC.cov (args1 := [.loc 0 0, intD look]) [] [] ⟨[(9, intD k), (8, .loc 2 0), (7, .loc 0 0), (2, intD look), (1, rowsE l)], WH now (fun j => outOf x.id (R j)) T U (mdel x.id M) c (docO now (outOf x.id L)), 53, ([], 0)⟩ ?_ ?_ (at_vc _ now (fun j => outOf x.id (R j)) T U (mdel x.id M) c _ _ look rfl rfl (doc_ho _ _) ?_)
        · repeat' (first | exact trivial | exact .inl (DLe.refl _) | exact .inl (DLe.nil _ _) | (refine .inr ⟨rfl, _, ?_, rfl⟩; rfl) | exact rfl | exact Nat.zero_le _ | constructor)
        · repeat' (first | exact trivial | exact .inl (DLe.refl _) | exact .inl (DLe.nil _ _) | (refine .inr ⟨rfl, _, ?_, rfl⟩; rfl) | exact rfl | exact Nat.zero_le _ | constructor)
        conv => whnf
        refine CallVC.look (rfind_rd now (outOf x.id L) look (by omega)) rfl ?_
        rintro _ rfl
        conv => whnf
        have hdl : (!decide ((((mdel x.id M)).length : Int) = ((outOf x.id L)).length)) = false := by rw [hi2.len]; simp
        refine ⟨⟨[(132, boolD false), (9, intD k), (8, .loc 2 0), (7, .loc 0 0), (2, intD look), (1, rowsE l)], WH now (fun j => outOf x.id (R j)) T U (mdel x.id M) c (docO now (outOf x.id L)), 53, ([], 0)⟩, ?_, ?_⟩
        · rcases look_cases hi2 look with ⟨q1, q2⟩ | ⟨kk, y, q1, q2, q3⟩
          · rw [q1, q2]
            conv => whnf
            refine ⟨?_, trivial⟩
            conv => whnf
            refine ⟨?_, trivial⟩
            conv => whnf
            refine ⟨?_, ?_, trivial⟩
            · conv => whnf
              refine CallVC.look (now_rd now _) rfl ?_
              rintro _ rfl
              conv => whnf
              refine ⟨?_, trivial⟩
              · conv => whnf
                rw [show (!decide (now = now)) = false by simp]
                conv => whnf
                refine ⟨?_, ?_, trivial⟩
                · conv => whnf
                  refine len_rd now (fun j => outOf x.id (R j)) T U (mdel x.id M) c _ _ _ rfl rfl (doc_ho _ _) ?_
                  conv => whnf
                  refine ⟨?_, trivial⟩
                  · conv => whnf
                    refine ⟨?_, trivial⟩
                    · conv => whnf
                      rw [hdl]
                      refine ⟨[], [], ⟨?_, coverH_self (m := 53) rfl rfl rfl rfl rfl fun _ _ => rfl, rfl, Nat.zero_le _, rfl, rfl⟩⟩
                      repeat' (first | exact trivial | exact .inl (DLe.refl _) | exact .inl (DLe.nil _ _) | (refine .inr ⟨rfl, _, ?_, rfl⟩; rfl) | exact rfl | exact Nat.zero_le _ | constructor)
                · conv => whnf
                  refine ⟨?_, ?_, trivial⟩
                  · conv => whnf
                    refine len_rd now (fun j => outOf x.id (R j)) T U (mdel x.id M) c _ _ _ rfl rfl (doc_ho _ _) ?_
                    conv => whnf
                    refine ⟨?_, trivial⟩
                    · conv => whnf
                      rw [hdl]
                      refine ⟨[], [], ⟨?_, coverH_self (m := 53) rfl rfl rfl rfl rfl fun _ _ => rfl, rfl, Nat.zero_le _, rfl, rfl⟩⟩
                      repeat' (first | exact trivial | exact .inl (DLe.refl _) | exact .inl (DLe.nil _ _) | (refine .inr ⟨rfl, _, ?_, rfl⟩; rfl) | exact rfl | exact Nat.zero_le _ | constructor)
                  · conv => whnf
                    refine ⟨?_, trivial⟩
                    · conv => whnf
                      refine len_rd now (fun j => outOf x.id (R j)) T U (mdel x.id M) c _ _ _ rfl rfl (doc_ho _ _) ?_
                      conv => whnf
                      rw [hdl]
                      refine ⟨[], [], ⟨?_, coverH_self (m := 53) rfl rfl rfl rfl rfl fun _ _ => rfl, rfl, Nat.zero_le _, rfl, rfl⟩⟩
                      repeat' (first | exact trivial | exact .inl (DLe.refl _) | exact .inl (DLe.nil _ _) | (refine .inr ⟨rfl, _, ?_, rfl⟩; rfl) | exact rfl | exact Nat.zero_le _ | constructor)
            · conv => whnf
              refine ⟨?_, trivial⟩
              · conv => whnf
                refine CallVC.look (now_rd now _) rfl ?_
                rintro _ rfl
                conv => whnf
                rw [show (!decide (now = now)) = false by simp]
                conv => whnf
                refine ⟨?_, ?_, trivial⟩
                · conv => whnf
                  refine len_rd now (fun j => outOf x.id (R j)) T U (mdel x.id M) c _ _ _ rfl rfl (doc_ho _ _) ?_
                  conv => whnf
                  refine ⟨?_, trivial⟩
                  · conv => whnf
                    refine ⟨?_, trivial⟩
                    · conv => whnf
                      rw [hdl]
                      refine ⟨[], [], ⟨?_, coverH_self (m := 53) rfl rfl rfl rfl rfl fun _ _ => rfl, rfl, Nat.zero_le _, rfl, rfl⟩⟩
                      repeat' (first | exact trivial | exact .inl (DLe.refl _) | exact .inl (DLe.nil _ _) | (refine .inr ⟨rfl, _, ?_, rfl⟩; rfl) | exact rfl | exact Nat.zero_le _ | constructor)
                · conv => whnf
                  refine ⟨?_, ?_, trivial⟩
                  · conv => whnf
                    refine len_rd now (fun j => outOf x.id (R j)) T U (mdel x.id M) c _ _ _ rfl rfl (doc_ho _ _) ?_
                    conv => whnf
                    refine ⟨?_, trivial⟩
                    · conv => whnf
                      rw [hdl]
                      refine ⟨[], [], ⟨?_, coverH_self (m := 53) rfl rfl rfl rfl rfl fun _ _ => rfl, rfl, Nat.zero_le _, rfl, rfl⟩⟩
                      repeat' (first | exact trivial | exact .inl (DLe.refl _) | exact .inl (DLe.nil _ _) | (refine .inr ⟨rfl, _, ?_, rfl⟩; rfl) | exact rfl | exact Nat.zero_le _ | constructor)
                  · conv => whnf
                    refine ⟨?_, trivial⟩
                    · conv => whnf
                      refine len_rd now (fun j => outOf x.id (R j)) T U (mdel x.id M) c _ _ _ rfl rfl (doc_ho _ _) ?_
                      conv => whnf
                      rw [hdl]
                      refine ⟨[], [], ⟨?_, coverH_self (m := 53) rfl rfl rfl rfl rfl fun _ _ => rfl, rfl, Nat.zero_le _, rfl, rfl⟩⟩
                      repeat' (first | exact trivial | exact .inl (DLe.refl _) | exact .inl (DLe.nil _ _) | (refine .inr ⟨rfl, _, ?_, rfl⟩; rfl) | exact rfl | exact Nat.zero_le _ | constructor)
          · have hkk := (List.getElem?_eq_some_iff.1 q2).1
            rw [q1, q3]
            conv => whnf
            rw [decide_eq_true (show (0 : Int) ≤ (kk : Int) by omega)]
            conv => whnf
            refine ⟨?_, trivial⟩
            conv => whnf
            refine ⟨rfl, ⟨by omega, by omega⟩, each_one q2 ?_⟩
            conv => whnf
            refine ⟨?_, trivial⟩
            conv => whnf
            rw [show (!decide ((some y.at_).getD 0 = y.at_)) = false by simp]
            conv => whnf
            refine ⟨?_, ?_, trivial⟩
            · conv => whnf
              refine CallVC.look (now_rd now _) rfl ?_
              rintro _ rfl
              conv => whnf
              refine ⟨?_, trivial⟩
              · conv => whnf
                rw [show (!decide (now = now)) = false by simp]
                conv => whnf
                refine ⟨?_, ?_, trivial⟩
                · conv => whnf
                  refine len_rd now (fun j => outOf x.id (R j)) T U (mdel x.id M) c _ _ _ rfl rfl (doc_ho _ _) ?_
                  conv => whnf
                  refine ⟨?_, trivial⟩
                  · conv => whnf
                    refine ⟨?_, trivial⟩
                    · conv => whnf
                      rw [hdl]
                      refine ⟨[], [], ⟨?_, coverH_self (m := 53) rfl rfl rfl rfl rfl fun _ _ => rfl, rfl, Nat.zero_le _, rfl, rfl⟩⟩
                      repeat' (first | exact trivial | exact .inl (DLe.refl _) | exact .inl (DLe.nil _ _) | (refine .inr ⟨rfl, _, ?_, rfl⟩; rfl) | exact rfl | exact Nat.zero_le _ | constructor)
                · conv => whnf
                  refine ⟨?_, ?_, trivial⟩
                  · conv => whnf
                    refine len_rd now (fun j => outOf x.id (R j)) T U (mdel x.id M) c _ _ _ rfl rfl (doc_ho _ _) ?_
                    conv => whnf
                    refine ⟨?_, trivial⟩
                    · conv => whnf
                      rw [hdl]
                      refine ⟨[], [], ⟨?_, coverH_self (m := 53) rfl rfl rfl rfl rfl fun _ _ => rfl, rfl, Nat.zero_le _, rfl, rfl⟩⟩
                      repeat' (first | exact trivial | exact .inl (DLe.refl _) | exact .inl (DLe.nil _ _) | (refine .inr ⟨rfl, _, ?_, rfl⟩; rfl) | exact rfl | exact Nat.zero_le _ | constructor)
                  · conv => whnf
                    refine ⟨?_, trivial⟩
                    · conv => whnf
                      refine len_rd now (fun j => outOf x.id (R j)) T U (mdel x.id M) c _ _ _ rfl rfl (doc_ho _ _) ?_
                      conv => whnf
                      rw [hdl]
                      refine ⟨[], [], ⟨?_, coverH_self (m := 53) rfl rfl rfl rfl rfl fun _ _ => rfl, rfl, Nat.zero_le _, rfl, rfl⟩⟩
                      repeat' (first | exact trivial | exact .inl (DLe.refl _) | exact .inl (DLe.nil _ _) | (refine .inr ⟨rfl, _, ?_, rfl⟩; rfl) | exact rfl | exact Nat.zero_le _ | constructor)
            · conv => whnf
              refine ⟨?_, trivial⟩
              · conv => whnf
                refine CallVC.look (now_rd now _) rfl ?_
                rintro _ rfl
                conv => whnf
                rw [show (!decide (now = now)) = false by simp]
                conv => whnf
                refine ⟨?_, ?_, trivial⟩
                · conv => whnf
                  refine len_rd now (fun j => outOf x.id (R j)) T U (mdel x.id M) c _ _ _ rfl rfl (doc_ho _ _) ?_
                  conv => whnf
                  refine ⟨?_, trivial⟩
                  · conv => whnf
                    refine ⟨?_, trivial⟩
                    · conv => whnf
                      rw [hdl]
                      refine ⟨[], [], ⟨?_, coverH_self (m := 53) rfl rfl rfl rfl rfl fun _ _ => rfl, rfl, Nat.zero_le _, rfl, rfl⟩⟩
                      repeat' (first | exact trivial | exact .inl (DLe.refl _) | exact .inl (DLe.nil _ _) | (refine .inr ⟨rfl, _, ?_, rfl⟩; rfl) | exact rfl | exact Nat.zero_le _ | constructor)
                · conv => whnf
                  refine ⟨?_, ?_, trivial⟩
                  · conv => whnf
                    refine len_rd now (fun j => outOf x.id (R j)) T U (mdel x.id M) c _ _ _ rfl rfl (doc_ho _ _) ?_
                    conv => whnf
                    refine ⟨?_, trivial⟩
                    · conv => whnf
                      rw [hdl]
                      refine ⟨[], [], ⟨?_, coverH_self (m := 53) rfl rfl rfl rfl rfl fun _ _ => rfl, rfl, Nat.zero_le _, rfl, rfl⟩⟩
                      repeat' (first | exact trivial | exact .inl (DLe.refl _) | exact .inl (DLe.nil _ _) | (refine .inr ⟨rfl, _, ?_, rfl⟩; rfl) | exact rfl | exact Nat.zero_le _ | constructor)
                  · conv => whnf
                    refine ⟨?_, trivial⟩
                    · conv => whnf
                      refine len_rd now (fun j => outOf x.id (R j)) T U (mdel x.id M) c _ _ _ rfl rfl (doc_ho _ _) ?_
                      conv => whnf
                      rw [hdl]
                      refine ⟨[], [], ⟨?_, coverH_self (m := 53) rfl rfl rfl rfl rfl fun _ _ => rfl, rfl, Nat.zero_le _, rfl, rfl⟩⟩
                      repeat' (first | exact trivial | exact .inl (DLe.refl _) | exact .inl (DLe.nil _ _) | (refine .inr ⟨rfl, _, ?_, rfl⟩; rfl) | exact rfl | exact Nat.zero_le _ | constructor)
        · conv => whnf
          rw [hwk]
          refine ⟨⟨k + 1, ⟨now, (fun j => outOf x.id (R j)), T, U, (mdel x.id M), (outOf x.id L)⟩, c⟩, [], [], ⟨?_, coverH_self (m := 53) rfl rfl rfl rfl rfl fun _ _ => rfl, rfl, Nat.zero_le _, rfl, rfl⟩, ⟨by show k + 1 ≤ _; omega, by show k + 1 ≤ 40; omega, hi2, hs2, by show ((outOf x.id L)).length ≤ k + 1; omega, by show now ≤ 1073741824 + 4095 * ((k + 1 : Nat) : Int); omega, hd2⟩, by show l.length - (k + 1) < l.length - k; omega⟩
          repeat' (first | exact trivial | exact .inl (DLe.refl _) | exact .inl (DLe.nil _ _) | (refine .inr ⟨rfl, _, ?_, rfl⟩; rfl) | exact rfl | exact Nat.zero_le _ | constructor)
      | false =>
        obtain ⟨X, hX⟩ : ∃ X, X = (WS.mk now R T [] M L).ticks (clampN x.at_).toNat := ⟨_, rfl⟩
        obtain ⟨x1, x2, x3, x4⟩ := ticks_spec (WS.mk now R T [] M L) hi hs (clampN x.at_).toNat
        rw [← hX] at x1 x2 x3 x4
        obtain ⟨c0, c1, c2⟩ := clampI_in x.at_
        have hcc : ((clampN x.at_).toNat : Int) = clampI x.at_ := by unfold clampN; omega
        rw [hcc] at x1 x3 x4
        have hset := rturn_ob now L x.at_ (by omega) ⟨hp0, by omega⟩
        have x1 : X.now = now + clampI x.at_ := x1
        have x3 : X.L = L.dropWhile (upTo (now + clampI x.at_)) := x3
        have x4 : X.U = L.takeWhile (upTo (now + clampI x.at_)) := x4
        rw [← x3, ← x4, ← x1] at hset
        have hUl : X.U.length ≤ 1000 := by rw [x4]; have := (List.takeWhile_sublist (upTo (now + clampI x.at_)) (l := L)).length_le; omega
        have hi2 := x2
        have hs2 : Sorted X.L := by rw [x3]; exact hs.drop _
        have hL2 : X.L.length ≤ L.length := by rw [x3]; exact (List.dropWhile_sublist _).length_le
        have hd2 : ∀ y, y ∈ X.L → y.at_ ≤ 1073741824 + 4095 * (((k + 1 : Nat) : Int) + 1) := fun y hy => by
          rw [x3] at hy
          have := hdue y ((List.dropWhile_sublist _).subset hy); omega
        have hsame := same_fn X.U hUl
        clear x3 x4
        conv => whnf
        refine ⟨⟨[(45, boolD true), (46, boolD false), (9, intD k), (8, .loc 2 0), (7, .loc 0 0), (2, intD look), (1, rowsE l)], WH X.now X.R X.T X.U X.M c (docO X.now X.L), 53, ([], 0)⟩, ?_, ?_⟩
        · conv => whnf
          refine ⟨?_, ?_, trivial⟩
          · conv => whnf
            refine ⟨?_, ?_, trivial⟩
            · conv => whnf
              refine CallVC.cov (args1 := [.loc 0 0, intD x.at_]) [] [] ⟨(42, .loc 53 2) :: [(41, .loc 2 0), (9, intD k), (8, .loc 2 0), (7, .loc 0 0), (2, intD look), (1, rowsE l)], (53, .cells 65 (deD x)) :: WH now R T U M c (docO now L), 54, ([], 0)⟩ ?_ ?_ (CallVC.frame rfl rfl rfl rfl rfl rfl rfl (turn_vc _ now R T U M c _ _ x.at_ L (by rfl) rfl (doc_ho _ _) hi hs (by omega) (by omega) (fun a ha => by have := hdue a ha; omega) fun X' hX' => ?_))
              · repeat' (first | exact trivial | exact .inl (DLe.refl _) | exact .inl (DLe.nil _ _) | (refine .inr ⟨rfl, _, ?_, rfl⟩; rfl) | exact rfl | exact Nat.zero_le _ | constructor)
              · repeat' (first | exact trivial | exact .inl (DLe.refl _) | exact .inl (DLe.nil _ _) | (refine .inr ⟨rfl, _, ?_, rfl⟩; rfl) | exact rfl | exact Nat.zero_le _ | constructor)
              obtain rfl : X' = X := hX'.trans hX.symm
              · conv => whnf
                refine ⟨?_, trivial⟩
                conv => whnf
                refine ⟨?_, trivial⟩
                conv => whnf
                refine CallVC.ob hset rfl rfl rfl ?_
                rintro _ _ ⟨rfl, rfl⟩
                conv => whnf
                refine ⟨?_, trivial⟩
                conv => whnf
                refine CallVC.look hsame rfl ?_
                rintro _ rfl
                conv => whnf
                refine ⟨[], [], ?_⟩
                repeat' (first | exact trivial | exact .inl (DLe.refl _) | exact .inl (DLe.nil _ _) | (refine .inr ⟨rfl, _, ?_, rfl⟩; rfl) | exact rfl | exact Nat.zero_le _ | constructor)
            · conv => whnf
              refine ⟨?_, trivial⟩
              conv => whnf
              refine CallVC.cov (args1 := [.loc 0 0, intD x.at_]) [] [] ⟨[(43, intD x.at_), (41, .loc 2 0), (9, intD k), (8, .loc 2 0), (7, .loc 0 0), (2, intD look), (1, rowsE l)], WH now R T U M c (docO now L), 53, ([], 0)⟩ ?_ ?_ (turn_vc _ now R T U M c _ _ x.at_ L (by rfl) rfl (doc_ho _ _) hi hs (by omega) (by omega) (fun a ha => by have := hdue a ha; omega) fun X' hX' => ?_)
              · repeat' (first | exact trivial | exact .inl (DLe.refl _) | exact .inl (DLe.nil _ _) | (refine .inr ⟨rfl, _, ?_, rfl⟩; rfl) | exact rfl | exact Nat.zero_le _ | constructor)
              · repeat' (first | exact trivial | exact .inl (DLe.refl _) | exact .inl (DLe.nil _ _) | (refine .inr ⟨rfl, _, ?_, rfl⟩; rfl) | exact rfl | exact Nat.zero_le _ | constructor)
              obtain rfl : X' = X := hX'.trans hX.symm
              · conv => whnf
                refine ⟨?_, trivial⟩
                conv => whnf
                refine CallVC.ob hset rfl rfl rfl ?_
                rintro _ _ ⟨rfl, rfl⟩
                conv => whnf
                refine ⟨?_, trivial⟩
                conv => whnf
                refine CallVC.look hsame rfl ?_
                rintro _ rfl
                conv => whnf
                refine ⟨[], [], ?_⟩
                repeat' (first | exact trivial | exact .inl (DLe.refl _) | exact .inl (DLe.nil _ _) | (refine .inr ⟨rfl, _, ?_, rfl⟩; rfl) | exact rfl | exact Nat.zero_le _ | constructor)
          · conv => whnf
            refine ⟨?_, trivial⟩
            conv => whnf
            refine ⟨?_, trivial⟩
            conv => whnf
            refine CallVC.cov (args1 := [.loc 0 0, intD x.at_]) [] [] ⟨[(43, intD x.at_), (41, .loc 2 0), (9, intD k), (8, .loc 2 0), (7, .loc 0 0), (2, intD look), (1, rowsE l)], WH now R T U M c (docO now L), 53, ([], 0)⟩ ?_ ?_ (turn_vc _ now R T U M c _ _ x.at_ L (by rfl) rfl (doc_ho _ _) hi hs (by omega) (by omega) (fun a ha => by have := hdue a ha; omega) fun X' hX' => ?_)
            · repeat' (first | exact trivial | exact .inl (DLe.refl _) | exact .inl (DLe.nil _ _) | (refine .inr ⟨rfl, _, ?_, rfl⟩; rfl) | exact rfl | exact Nat.zero_le _ | constructor)
            · repeat' (first | exact trivial | exact .inl (DLe.refl _) | exact .inl (DLe.nil _ _) | (refine .inr ⟨rfl, _, ?_, rfl⟩; rfl) | exact rfl | exact Nat.zero_le _ | constructor)
            obtain rfl : X' = X := hX'.trans hX.symm
            · conv => whnf
              refine ⟨?_, trivial⟩
              conv => whnf
              refine CallVC.ob hset rfl rfl rfl ?_
              rintro _ _ ⟨rfl, rfl⟩
              conv => whnf
              refine ⟨?_, trivial⟩
              conv => whnf
              refine CallVC.look hsame rfl ?_
              rintro _ rfl
              conv => whnf
              refine ⟨[], [], ?_⟩
              repeat' (first | exact trivial | exact .inl (DLe.refl _) | exact .inl (DLe.nil _ _) | (refine .inr ⟨rfl, _, ?_, rfl⟩; rfl) | exact rfl | exact Nat.zero_le _ | constructor)
        conv => whnf
        refine CallVC.cov (args1 := [.loc 0 0, intD look]) [] [] ⟨[(9, intD k), (8, .loc 2 0), (7, .loc 0 0), (2, intD look), (1, rowsE l)], WH X.now X.R X.T X.U X.M c (docO X.now X.L), 53, ([], 0)⟩ ?_ ?_ (at_vc _ X.now X.R X.T X.U X.M c _ _ look rfl rfl (doc_ho _ _) ?_)
        · repeat' (first | exact trivial | exact .inl (DLe.refl _) | exact .inl (DLe.nil _ _) | (refine .inr ⟨rfl, _, ?_, rfl⟩; rfl) | exact rfl | exact Nat.zero_le _ | constructor)
        · repeat' (first | exact trivial | exact .inl (DLe.refl _) | exact .inl (DLe.nil _ _) | (refine .inr ⟨rfl, _, ?_, rfl⟩; rfl) | exact rfl | exact Nat.zero_le _ | constructor)
        conv => whnf
        refine CallVC.look (rfind_rd X.now X.L look (by omega)) rfl ?_
        rintro _ rfl
        conv => whnf
        have hdl : (!decide (((X.M).length : Int) = (X.L).length)) = false := by rw [hi2.len]; simp
        refine ⟨⟨[(132, boolD false), (9, intD k), (8, .loc 2 0), (7, .loc 0 0), (2, intD look), (1, rowsE l)], WH X.now X.R X.T X.U X.M c (docO X.now X.L), 53, ([], 0)⟩, ?_, ?_⟩
        · rcases look_cases hi2 look with ⟨q1, q2⟩ | ⟨kk, y, q1, q2, q3⟩
          · rw [q1, q2]
            conv => whnf
            refine ⟨?_, trivial⟩
            conv => whnf
            refine ⟨?_, trivial⟩
            conv => whnf
            refine ⟨?_, ?_, trivial⟩
            · conv => whnf
              refine CallVC.look (now_rd X.now _) rfl ?_
              rintro _ rfl
              conv => whnf
              refine ⟨?_, trivial⟩
              · conv => whnf
                rw [show (!decide (X.now = X.now)) = false by simp]
                conv => whnf
                refine ⟨?_, ?_, trivial⟩
                · conv => whnf
                  refine len_rd X.now X.R X.T X.U X.M c _ _ _ rfl rfl (doc_ho _ _) ?_
                  conv => whnf
                  refine ⟨?_, trivial⟩
                  · conv => whnf
                    refine ⟨?_, trivial⟩
                    · conv => whnf
                      rw [hdl]
                      refine ⟨[], [], ⟨?_, coverH_self (m := 53) rfl rfl rfl rfl rfl fun _ _ => rfl, rfl, Nat.zero_le _, rfl, rfl⟩⟩
                      repeat' (first | exact trivial | exact .inl (DLe.refl _) | exact .inl (DLe.nil _ _) | (refine .inr ⟨rfl, _, ?_, rfl⟩; rfl) | exact rfl | exact Nat.zero_le _ | constructor)
                · conv => whnf
                  refine ⟨?_, ?_, trivial⟩
                  · conv => whnf
                    refine len_rd X.now X.R X.T X.U X.M c _ _ _ rfl rfl (doc_ho _ _) ?_
                    conv => whnf
                    refine ⟨?_, trivial⟩
                    · conv => whnf
                      rw [hdl]
                      refine ⟨[], [], ⟨?_, coverH_self (m := 53) rfl rfl rfl rfl rfl fun _ _ => rfl, rfl, Nat.zero_le _, rfl, rfl⟩⟩
                      repeat' (first | exact trivial | exact .inl (DLe.refl _) | exact .inl (DLe.nil _ _) | (refine .inr ⟨rfl, _, ?_, rfl⟩; rfl) | exact rfl | exact Nat.zero_le _ | constructor)
                  · conv => whnf
                    refine ⟨?_, trivial⟩
                    · conv => whnf
                      refine len_rd X.now X.R X.T X.U X.M c _ _ _ rfl rfl (doc_ho _ _) ?_
                      conv => whnf
                      rw [hdl]
                      refine ⟨[], [], ⟨?_, coverH_self (m := 53) rfl rfl rfl rfl rfl fun _ _ => rfl, rfl, Nat.zero_le _, rfl, rfl⟩⟩
                      repeat' (first | exact trivial | exact .inl (DLe.refl _) | exact .inl (DLe.nil _ _) | (refine .inr ⟨rfl, _, ?_, rfl⟩; rfl) | exact rfl | exact Nat.zero_le _ | constructor)
            · conv => whnf
              refine ⟨?_, trivial⟩
              · conv => whnf
                refine CallVC.look (now_rd X.now _) rfl ?_
                rintro _ rfl
                conv => whnf
                rw [show (!decide (X.now = X.now)) = false by simp]
                conv => whnf
                refine ⟨?_, ?_, trivial⟩
                · conv => whnf
                  refine len_rd X.now X.R X.T X.U X.M c _ _ _ rfl rfl (doc_ho _ _) ?_
                  conv => whnf
                  refine ⟨?_, trivial⟩
                  · conv => whnf
                    refine ⟨?_, trivial⟩
                    · conv => whnf
                      rw [hdl]
                      refine ⟨[], [], ⟨?_, coverH_self (m := 53) rfl rfl rfl rfl rfl fun _ _ => rfl, rfl, Nat.zero_le _, rfl, rfl⟩⟩
                      repeat' (first | exact trivial | exact .inl (DLe.refl _) | exact .inl (DLe.nil _ _) | (refine .inr ⟨rfl, _, ?_, rfl⟩; rfl) | exact rfl | exact Nat.zero_le _ | constructor)
                · conv => whnf
                  refine ⟨?_, ?_, trivial⟩
                  · conv => whnf
                    refine len_rd X.now X.R X.T X.U X.M c _ _ _ rfl rfl (doc_ho _ _) ?_
                    conv => whnf
                    refine ⟨?_, trivial⟩
                    · conv => whnf
                      rw [hdl]
                      refine ⟨[], [], ⟨?_, coverH_self (m := 53) rfl rfl rfl rfl rfl fun _ _ => rfl, rfl, Nat.zero_le _, rfl, rfl⟩⟩
                      repeat' (first | exact trivial | exact .inl (DLe.refl _) | exact .inl (DLe.nil _ _) | (refine .inr ⟨rfl, _, ?_, rfl⟩; rfl) | exact rfl | exact Nat.zero_le _ | constructor)
                  · conv => whnf
                    refine ⟨?_, trivial⟩
                    · conv => whnf
                      refine len_rd X.now X.R X.T X.U X.M c _ _ _ rfl rfl (doc_ho _ _) ?_
                      conv => whnf
                      rw [hdl]
                      refine ⟨[], [], ⟨?_, coverH_self (m := 53) rfl rfl rfl rfl rfl fun _ _ => rfl, rfl, Nat.zero_le _, rfl, rfl⟩⟩
                      repeat' (first | exact trivial | exact .inl (DLe.refl _) | exact .inl (DLe.nil _ _) | (refine .inr ⟨rfl, _, ?_, rfl⟩; rfl) | exact rfl | exact Nat.zero_le _ | constructor)
          · have hkk := (List.getElem?_eq_some_iff.1 q2).1
            rw [q1, q3]
            conv => whnf
            rw [decide_eq_true (show (0 : Int) ≤ (kk : Int) by omega)]
            conv => whnf
            refine ⟨?_, trivial⟩
            conv => whnf
            refine ⟨rfl, ⟨by omega, by omega⟩, each_one q2 ?_⟩
            conv => whnf
            refine ⟨?_, trivial⟩
            conv => whnf
            rw [show (!decide ((some y.at_).getD 0 = y.at_)) = false by simp]
            conv => whnf
            refine ⟨?_, ?_, trivial⟩
            · conv => whnf
              refine CallVC.look (now_rd X.now _) rfl ?_
              rintro _ rfl
              conv => whnf
              refine ⟨?_, trivial⟩
              · conv => whnf
                rw [show (!decide (X.now = X.now)) = false by simp]
                conv => whnf
                refine ⟨?_, ?_, trivial⟩
                · conv => whnf
                  refine len_rd X.now X.R X.T X.U X.M c _ _ _ rfl rfl (doc_ho _ _) ?_
                  conv => whnf
                  refine ⟨?_, trivial⟩
                  · conv => whnf
                    refine ⟨?_, trivial⟩
                    · conv => whnf
                      rw [hdl]
                      refine ⟨[], [], ⟨?_, coverH_self (m := 53) rfl rfl rfl rfl rfl fun _ _ => rfl, rfl, Nat.zero_le _, rfl, rfl⟩⟩
                      repeat' (first | exact trivial | exact .inl (DLe.refl _) | exact .inl (DLe.nil _ _) | (refine .inr ⟨rfl, _, ?_, rfl⟩; rfl) | exact rfl | exact Nat.zero_le _ | constructor)
                · conv => whnf
                  refine ⟨?_, ?_, trivial⟩
                  · conv => whnf
                    refine len_rd X.now X.R X.T X.U X.M c _ _ _ rfl rfl (doc_ho _ _) ?_
                    conv => whnf
                    refine ⟨?_, trivial⟩
                    · conv => whnf
                      rw [hdl]
                      refine ⟨[], [], ⟨?_, coverH_self (m := 53) rfl rfl rfl rfl rfl fun _ _ => rfl, rfl, Nat.zero_le _, rfl, rfl⟩⟩
                      repeat' (first | exact trivial | exact .inl (DLe.refl _) | exact .inl (DLe.nil _ _) | (refine .inr ⟨rfl, _, ?_, rfl⟩; rfl) | exact rfl | exact Nat.zero_le _ | constructor)
                  · conv => whnf
                    refine ⟨?_, trivial⟩
                    · conv => whnf
                      refine len_rd X.now X.R X.T X.U X.M c _ _ _ rfl rfl (doc_ho _ _) ?_
                      conv => whnf
                      rw [hdl]
                      refine ⟨[], [], ⟨?_, coverH_self (m := 53) rfl rfl rfl rfl rfl fun _ _ => rfl, rfl, Nat.zero_le _, rfl, rfl⟩⟩
                      repeat' (first | exact trivial | exact .inl (DLe.refl _) | exact .inl (DLe.nil _ _) | (refine .inr ⟨rfl, _, ?_, rfl⟩; rfl) | exact rfl | exact Nat.zero_le _ | constructor)
            · conv => whnf
              refine ⟨?_, trivial⟩
              · conv => whnf
                refine CallVC.look (now_rd X.now _) rfl ?_
                rintro _ rfl
                conv => whnf
                rw [show (!decide (X.now = X.now)) = false by simp]
                conv => whnf
                refine ⟨?_, ?_, trivial⟩
                · conv => whnf
                  refine len_rd X.now X.R X.T X.U X.M c _ _ _ rfl rfl (doc_ho _ _) ?_
                  conv => whnf
                  refine ⟨?_, trivial⟩
                  · conv => whnf
                    refine ⟨?_, trivial⟩
                    · conv => whnf
                      rw [hdl]
                      refine ⟨[], [], ⟨?_, coverH_self (m := 53) rfl rfl rfl rfl rfl fun _ _ => rfl, rfl, Nat.zero_le _, rfl, rfl⟩⟩
                      repeat' (first | exact trivial | exact .inl (DLe.refl _) | exact .inl (DLe.nil _ _) | (refine .inr ⟨rfl, _, ?_, rfl⟩; rfl) | exact rfl | exact Nat.zero_le _ | constructor)
                · conv => whnf
                  refine ⟨?_, ?_, trivial⟩
                  · conv => whnf
                    refine len_rd X.now X.R X.T X.U X.M c _ _ _ rfl rfl (doc_ho _ _) ?_
                    conv => whnf
                    refine ⟨?_, trivial⟩
                    · conv => whnf
                      rw [hdl]
                      refine ⟨[], [], ⟨?_, coverH_self (m := 53) rfl rfl rfl rfl rfl fun _ _ => rfl, rfl, Nat.zero_le _, rfl, rfl⟩⟩
                      repeat' (first | exact trivial | exact .inl (DLe.refl _) | exact .inl (DLe.nil _ _) | (refine .inr ⟨rfl, _, ?_, rfl⟩; rfl) | exact rfl | exact Nat.zero_le _ | constructor)
                  · conv => whnf
                    refine ⟨?_, trivial⟩
                    · conv => whnf
                      refine len_rd X.now X.R X.T X.U X.M c _ _ _ rfl rfl (doc_ho _ _) ?_
                      conv => whnf
                      rw [hdl]
                      refine ⟨[], [], ⟨?_, coverH_self (m := 53) rfl rfl rfl rfl rfl fun _ _ => rfl, rfl, Nat.zero_le _, rfl, rfl⟩⟩
                      repeat' (first | exact trivial | exact .inl (DLe.refl _) | exact .inl (DLe.nil _ _) | (refine .inr ⟨rfl, _, ?_, rfl⟩; rfl) | exact rfl | exact Nat.zero_le _ | constructor)
        · conv => whnf
          rw [hwk]
          refine ⟨⟨k + 1, ⟨X.now, X.R, X.T, X.U, X.M, X.L⟩, c⟩, [], [], ⟨?_, coverH_self (m := 53) rfl rfl rfl rfl rfl fun _ _ => rfl, rfl, Nat.zero_le _, rfl, rfl⟩, ⟨by show k + 1 ≤ _; omega, by show k + 1 ≤ 40; omega, hi2, hs2, by show (X.L).length ≤ k + 1; omega, by show X.now ≤ 1073741824 + 4095 * ((k + 1 : Nat) : Int); omega, hd2⟩, by show l.length - (k + 1) < l.length - k; omega⟩
          repeat' (first | exact trivial | exact .inl (DLe.refl _) | exact .inl (DLe.nil _ _) | (refine .inr ⟨rfl, _, ?_, rfl⟩; rfl) | exact rfl | exact Nat.zero_le _ | constructor)
end Go.Proofs.Ytcbpdjikdohegaa.V
namespace Go.Proofs.Ytcbpdjikdohegaa.V
open Go.ChangeShapes Go.WideShapes Go.ChangeAt Go.RowKit

def deV (x : De) : List Value := [.int .i64 x.kind, .int .i64 x.id, .int .i64 x.at_]
instance : Inhabited De := ⟨⟨0, 0, 0⟩⟩

section
variable {H : Type} {enc : TypeId × Value → H} {W : World}
theorem de_elem {fuel : Nat} {cs : List Value} {x : DataW H × List MemPlace} (h : DataW.trod enc Try.prog W 0 (fun _ => true) true fuel 65 cs = some x) :
    ∃ d : De, True ∧ ∀ (j : Nat) (c : Value), (deV d)[j]? = some c → cs[j]? = some c := by
  obtain ⟨z, hz⟩ := trod_kinds (d := 4) [.i64, .i64, .i64] (by kernel_rfl) h
  refine ⟨⟨z 0, z 1, z 2⟩, trivial, ?_⟩
  intro j c hj
  match j, hj with
  | 0, hj => simp [deV] at hj; subst hj; exact (hz 0 _ rfl).1
  | 1, hj => simp [deV] at hj; subst hj; exact (hz 1 _ rfl).1
  | 2, hj => simp [deV] at hj; subst hj; exact (hz 2 _ rfl).1
  | n + 3, hj => simp [deV] at hj
end
end Go.Proofs.Ytcbpdjikdohegaa.V
