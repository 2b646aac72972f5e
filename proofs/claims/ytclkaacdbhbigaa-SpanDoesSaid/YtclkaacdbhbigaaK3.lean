/-
  The document's set: its looking, by value. Conditions: numbers not too great; rows not too long.
  The document's set: counting, ways, what is put, by value. Conditions: numbers not too great; rows not too long.
  The document's set: a range added, the next number, by value. Conditions: numbers not too great; rows not too long.
  The document's set: what came, as ranges, by value. Conditions: numbers not too great; rows not too long.
  A set of numbers that came, by the program: its looking, its moving, by value. Conditions: numbers are of their types; rows not too long.
  A set of numbers that came, by the program: what came, how many, its moving, by value. Conditions: numbers are of their types; rows not too long.
  The program's set and the document's: a range added to both, all counted; ranges compared. Conditions: numbers of their types; rows not too long.
  The law SpanDoes, by value. Conditions: numbers are of their types; rows not too long.
-/
import Derived.Test.YtclkaacdbhbigaaK2
namespace Go.Proofs.Ytclkaacdbhbigaa.V
open Go.RowKit Sp
attribute [local irreducible] Fn FnN CallVC OpVC Ob

def prD (x : Int × Int) : List D := [intD x.1, intD x.2]
abbrev rowsQ (Q : List (Int × Int)) : D := .rows (Int × Int) 2 prD Q
abbrev docD (F M : Int) (Q : List (Int × Int)) : List D := [.v (.int .u32 F), intD M, rowsQ Q]

theorem any_next {α : Type} {p : α → Bool} {L : List α} {k : Nat} {x : α} (hx : L[k]? = some x) (h : p x = false) (hk : (L.take k).any p = false) : (L.take (k + 1)).any p = false := by
  rw [take_snoc hx, List.any_append, hk]; simp [h]

theorem rhas_rd (F M : Int) (Q : List (Int × Int)) (n : Int) (hl : Q.length ≤ 1000) :
    FnN Try.prog 17 [.fp (docD F M Q), intD n] fun d => d = boolD (has Q n) := by
  refine fnNOf [] Try.func17 rfl (by kernel_rfl) (Nat.le_of_ble_eq_true rfl) ?_
  conv => whnf
  refine ⟨Nat, fun k => ⟨[(5, intD k), (1, intD n), (0, .fp (docD F M Q))], [], 0, ([], 0)⟩,
    fun k => k ≤ Q.length ∧ (Q.take k).any (fun x => decide (x.1 ≤ n) && decide (n < x.2)) = false, fun k => Q.length - k, ⟨0, [], [], ?_, Nat.zero_le _, rfl⟩, ?_⟩
  · repeat' (first | exact trivial | exact .inl (DLe.refl _) | exact .inl (DLe.nil _ _) | (refine .inr ⟨rfl, _, ?_, rfl⟩; rfl) | exact rfl | exact Nat.zero_le _ | constructor)
  · rintro k ⟨hk, hno⟩
    conv => whnf
    refine Fork.intro (fun h1 => ?_) (fun h1 => ?_)
    · have hlt : (k : Int) < Q.length := of_decide_eq_true h1
      conv => whnf
      refine ⟨rfl, ⟨by omega, hlt⟩, fun x hx => ?_⟩
      have hxk : Q[k]? = some x := by simpa using hx
      have hany : (decide (x.1 ≤ n) && decide (n < x.2)) = true → has Q n = true := fun h => List.any_eq_true.2 ⟨x, List.mem_of_getElem? hxk, h⟩
      have hnext := any_next (p := fun x : Int × Int => decide (x.1 ≤ n) && decide (n < x.2)) hxk
      conv => whnf
      (refine ⟨by decide, ?_⟩; conv => whnf)
      cases h2 : decide (x.1 ≤ n) with
      | true =>
        conv => whnf
        refine ⟨rfl, ⟨by omega, hlt⟩, fun x' hx' => ?_⟩
        obtain rfl : x = x' := Option.some.inj (hxk.symm.trans (by simpa using hx'))
        conv => whnf
        (refine ⟨by decide, ?_⟩; conv => whnf)
        cases h3 : decide (n < x.2) with
        | true =>
          conv => whnf
          rw [hany (by rw [h2, h3]; rfl)]
          exact ⟨rfl, rfl⟩
        | false =>
          conv => whnf
          rw [wrap_next (show k < 1000 by omega) (by omega)]
          refine ⟨k + 1, [], [], ?_, ⟨by omega, hnext (by rw [h2, h3]; rfl) hno⟩, by show Q.length - (k + 1) < Q.length - k; omega⟩
          repeat' (first | exact trivial | exact .inl (DLe.refl _) | exact .inl (DLe.nil _ _) | (refine .inr ⟨rfl, _, ?_, rfl⟩; rfl) | exact rfl | exact Nat.zero_le _ | constructor)
      | false =>
        conv => whnf
        rw [wrap_next (show k < 1000 by omega) (by omega)]
        refine ⟨k + 1, [], [], ?_, ⟨by omega, hnext (by rw [h2]; rfl) hno⟩, by show Q.length - (k + 1) < Q.length - k; omega⟩
        repeat' (first | exact trivial | exact .inl (DLe.refl _) | exact .inl (DLe.nil _ _) | (refine .inr ⟨rfl, _, ?_, rfl⟩; rfl) | exact rfl | exact Nat.zero_le _ | constructor)
    · have hge : ¬ (k : Int) < Q.length := of_decide_eq_false h1
      have he : Q.take k = Q := List.take_of_length_le (by omega)
      rw [he] at hno
      have : has Q n = false := hno
      rw [this]
      conv => whnf
      exact ⟨rfl, rfl⟩

/-- The next bound behind a place, as far as it is known within a pair. -/
def behK (n b : Int) (x : Int × Int) : Nat → Int
  | 0 => b
  | 1 => beh1 n b x.1
  | _ => beh2 n b x

set_option maxHeartbeats 2000000 in
theorem rbeh_rd (F M : Int) (Q : List (Int × Int)) (n b : Int) (hl : Q.length ≤ 1000) :
    FnN Try.prog 30 [.fp (docD F M Q), intD n, intD b] fun d => d = intD (beh n Q b) := by
  refine fnNOf [] Try.func30 rfl (by kernel_rfl) (Nat.le_of_ble_eq_true rfl) ?_
  conv => whnf
  refine ⟨Nat, fun i => ⟨[(8, intD i), (7, intD (beh n (Q.take i) b)), (1, intD n), (0, .fp (docD F M Q))], [], 0, ([], 0)⟩,
    fun i => i ≤ Q.length, fun i => Q.length - i, ⟨0, [], [], ?_, Nat.zero_le _⟩, ?_⟩
  · repeat' (first | exact trivial | exact .inl (DLe.refl _) | exact .inl (DLe.nil _ _) | (refine .inr ⟨rfl, _, ?_, rfl⟩; rfl) | exact rfl | exact Nat.zero_le _ | constructor)
  · intro i hi
    conv => whnf
    refine Fork.intro (fun h1 => ?_) (fun h1 => ?_)
    · have hlt : (i : Int) < Q.length := of_decide_eq_true h1
      obtain ⟨x, hxi⟩ : ∃ x, Q[i]? = some x := ⟨_, List.getElem?_eq_getElem (by omega)⟩
      have hnext : beh n (Q.take (i + 1)) b = beh2 n (beh n (Q.take i) b) x := by rw [take_snoc hxi, beh_append]; rfl
      generalize beh n (Q.take i) b = c at *
      conv => whnf
      refine ⟨Nat, fun k => ⟨[(9, intD k), (8, intD i), (7, intD (behK n c x k)), (1, intD n), (0, .fp (docD F M Q))], [], 0, ([], 0)⟩,
        fun k => k ≤ 2, fun k => 2 - k, ⟨0, [], [], ?_, Nat.zero_le _⟩, ?_⟩
      · repeat' (first | exact trivial | exact .inl (DLe.refl _) | exact .inl (DLe.nil _ _) | (refine .inr ⟨rfl, _, ?_, rfl⟩; rfl) | exact rfl | exact Nat.zero_le _ | constructor)
      · intro k hk
        have h3 : k = 0 ∨ k = 1 ∨ k = 2 := by omega
        rcases h3 with rfl | rfl | rfl
        · conv => whnf
          refine ⟨rfl, ⟨by omega, hlt⟩, fun x' hx' => ?_⟩
          obtain rfl : x = x' := Option.some.inj (hxi.symm.trans (by simpa using hx'))
          conv => whnf
          (refine ⟨by decide, ?_⟩; conv => whnf)
          generalize hc1 : behK n c x 0 = c1 at *
          have hn1 : behK n c x (0 + 1) = beh1 n c1 x.1 := by rw [← hc1]; rfl
          cases h2 : decide (n < x.1) with
          | true =>
            conv => whnf
            refine ⟨rfl, ⟨by omega, hlt⟩, fun x' hx' => ?_⟩
            obtain rfl : x = x' := Option.some.inj (hxi.symm.trans (by simpa using hx'))
            conv => whnf
            (refine ⟨by decide, ?_⟩; conv => whnf)
            cases h3 : decide (x.1 < c1) with
            | true =>
              conv => whnf
              refine ⟨rfl, ⟨by omega, hlt⟩, fun x' hx' => ?_⟩
              obtain rfl : x = x' := Option.some.inj (hxi.symm.trans (by simpa using hx'))
              conv => whnf
              (refine ⟨by decide, ?_⟩; conv => whnf)
              rw [wrap_next (show 0 < 1000 by decide) (by decide)]
              refine ⟨0 + 1, [], [], ?_, by decide, by decide⟩
              show Cover _ _ _ ⟨[_, _, (7, intD (behK n c x (0 + 1))), _, _], _, _, _⟩
              rw [hn1, show beh1 n c1 x.1 = x.1 by unfold beh1; rw [h2, h3]; rfl]
              repeat' (first | exact trivial | exact .inl (DLe.refl _) | exact .inl (DLe.nil _ _) | (refine .inr ⟨rfl, _, ?_, rfl⟩; rfl) | exact rfl | exact Nat.zero_le _ | constructor)
            | false =>
              conv => whnf
              rw [wrap_next (show 0 < 1000 by decide) (by decide)]
              refine ⟨0 + 1, [], [], ?_, by decide, by decide⟩
              show Cover _ _ _ ⟨[_, _, (7, intD (behK n c x (0 + 1))), _, _], _, _, _⟩
              rw [hn1, show beh1 n c1 x.1 = c1 by unfold beh1; rw [h2, h3]; rfl]
              repeat' (first | exact trivial | exact .inl (DLe.refl _) | exact .inl (DLe.nil _ _) | (refine .inr ⟨rfl, _, ?_, rfl⟩; rfl) | exact rfl | exact Nat.zero_le _ | constructor)
          | false =>
            conv => whnf
            rw [wrap_next (show 0 < 1000 by decide) (by decide)]
            refine ⟨0 + 1, [], [], ?_, by decide, by decide⟩
            show Cover _ _ _ ⟨[_, _, (7, intD (behK n c x (0 + 1))), _, _], _, _, _⟩
            rw [hn1, show beh1 n c1 x.1 = c1 by unfold beh1; rw [h2]; rfl]
            repeat' (first | exact trivial | exact .inl (DLe.refl _) | exact .inl (DLe.nil _ _) | (refine .inr ⟨rfl, _, ?_, rfl⟩; rfl) | exact rfl | exact Nat.zero_le _ | constructor)
        · conv => whnf
          refine ⟨rfl, ⟨by omega, hlt⟩, fun x' hx' => ?_⟩
          obtain rfl : x = x' := Option.some.inj (hxi.symm.trans (by simpa using hx'))
          conv => whnf
          (refine ⟨by decide, ?_⟩; conv => whnf)
          generalize hc1 : behK n c x 1 = c1 at *
          have hn1 : behK n c x (1 + 1) = beh1 n c1 x.2 := by rw [← hc1]; rfl
          cases h2 : decide (n < x.2) with
          | true =>
            conv => whnf
            refine ⟨rfl, ⟨by omega, hlt⟩, fun x' hx' => ?_⟩
            obtain rfl : x = x' := Option.some.inj (hxi.symm.trans (by simpa using hx'))
            conv => whnf
            (refine ⟨by decide, ?_⟩; conv => whnf)
            cases h3 : decide (x.2 < c1) with
            | true =>
              conv => whnf
              refine ⟨rfl, ⟨by omega, hlt⟩, fun x' hx' => ?_⟩
              obtain rfl : x = x' := Option.some.inj (hxi.symm.trans (by simpa using hx'))
              conv => whnf
              (refine ⟨by decide, ?_⟩; conv => whnf)
              rw [wrap_next (show 1 < 1000 by decide) (by decide)]
              refine ⟨1 + 1, [], [], ?_, by decide, by decide⟩
              show Cover _ _ _ ⟨[_, _, (7, intD (behK n c x (1 + 1))), _, _], _, _, _⟩
              rw [hn1, show beh1 n c1 x.2 = x.2 by unfold beh1; rw [h2, h3]; rfl]
              repeat' (first | exact trivial | exact .inl (DLe.refl _) | exact .inl (DLe.nil _ _) | (refine .inr ⟨rfl, _, ?_, rfl⟩; rfl) | exact rfl | exact Nat.zero_le _ | constructor)
            | false =>
              conv => whnf
              rw [wrap_next (show 1 < 1000 by decide) (by decide)]
              refine ⟨1 + 1, [], [], ?_, by decide, by decide⟩
              show Cover _ _ _ ⟨[_, _, (7, intD (behK n c x (1 + 1))), _, _], _, _, _⟩
              rw [hn1, show beh1 n c1 x.2 = c1 by unfold beh1; rw [h2, h3]; rfl]
              repeat' (first | exact trivial | exact .inl (DLe.refl _) | exact .inl (DLe.nil _ _) | (refine .inr ⟨rfl, _, ?_, rfl⟩; rfl) | exact rfl | exact Nat.zero_le _ | constructor)
          | false =>
            conv => whnf
            rw [wrap_next (show 1 < 1000 by decide) (by decide)]
            refine ⟨1 + 1, [], [], ?_, by decide, by decide⟩
            show Cover _ _ _ ⟨[_, _, (7, intD (behK n c x (1 + 1))), _, _], _, _, _⟩
            rw [hn1, show beh1 n c1 x.2 = c1 by unfold beh1; rw [h2]; rfl]
            repeat' (first | exact trivial | exact .inl (DLe.refl _) | exact .inl (DLe.nil _ _) | (refine .inr ⟨rfl, _, ?_, rfl⟩; rfl) | exact rfl | exact Nat.zero_le _ | constructor)
        · conv => whnf
          rw [wrap_next (show i < 1000 by omega) (by omega)]
          refine ⟨i + 1, [], [], ?_, by show i + 1 ≤ _; omega, by show Q.length - (i + 1) < Q.length - i; omega⟩
          show Cover _ _ _ ⟨[_, (7, intD (beh n (Q.take (i + 1)) b)), _, _], _, _, _⟩
          rw [hnext]
          repeat' (first | exact trivial | exact .inl (DLe.refl _) | exact .inl (DLe.nil _ _) | (refine .inr ⟨rfl, _, ?_, rfl⟩; rfl) | exact rfl | exact Nat.zero_le _ | constructor)
    · have hge : ¬ (i : Int) < Q.length := of_decide_eq_false h1
      have he : Q.take i = Q := List.take_of_length_le (by omega)
      rw [he]
      conv => whnf
      exact ⟨rfl, rfl⟩
end Go.Proofs.Ytclkaacdbhbigaa.V
namespace Go.Proofs.Ytclkaacdbhbigaa.V
open Go.RowKit Sp
attribute [local irreducible] Fn FnN CallVC OpVC Ob

theorem cnt_bound (f : Int → Bool) (a : Int) : ∀ k : Nat, 0 ≤ cnt f a k ∧ cnt f a k ≤ k
  | 0 => ⟨Int.le_refl _, Int.le_refl _⟩
  | k + 1 => by
    have := cnt_bound f a k
    unfold cnt
    split <;> omega

theorem rcount_rd (F M : Int) (Q : List (Int × Int)) (a b : Int) (hl : Q.length ≤ 1000) (ha : 0 ≤ a ∧ a ≤ 1099511627776) (hb : 0 ≤ b ∧ b ≤ 1099511627776) :
    FnN Try.prog 26 [.fp (docD F M Q), intD a, intD b] fun d => d = intD (cnt (has Q) a (b - a).toNat) := by
  refine fnNOf [] Try.func26 rfl (by kernel_rfl) (Nat.le_of_ble_eq_true rfl) ?_
  conv => whnf
  refine ⟨Int, fun p => ⟨[(8, intD p), (7, intD (cnt (has Q) a (p - a).toNat)), (2, intD b), (0, .fp (docD F M Q))], [], 0, ([], 0)⟩,
    fun p => a ≤ p ∧ (p = a ∨ p ≤ b), fun p => (b - p).toNat, ⟨a, [], [], ?_, Int.le_refl _, .inl rfl⟩, ?_⟩
  · show Cover _ _ _ ⟨[_, (7, intD (cnt (has Q) a (a - a).toNat)), _, _], _, _, _⟩
    rw [show (a - a).toNat = 0 by omega]
    repeat' (first | exact trivial | exact .inl (DLe.refl _) | exact .inl (DLe.nil _ _) | (refine .inr ⟨rfl, _, ?_, rfl⟩; rfl) | exact rfl | exact Nat.zero_le _ | constructor)
  · rintro p ⟨hp, hpb⟩
    conv => whnf
    refine Fork.intro (fun h1 => ?_) (fun h1 => ?_)
    · have hlt : p < b := of_decide_eq_true h1
      obtain ⟨g1, g2, g3⟩ := beh_spec (L := Q) hlt
      have hst := cnt_stretch (L := Q) (a := a) (at_ := p) (best := b) (k := (p - a).toNat) (j := (beh p Q b - p).toNat) (by omega) hlt (by omega)
      rw [show (p - a).toNat + (beh p Q b - p).toNat = (beh p Q b - a).toNat by omega] at hst
      have hc := cnt_bound (has Q) a (p - a).toNat
      have hrb := rbeh_rd F M Q p b hl
      have hrh := rhas_rd F M Q p hl
      generalize beh p Q b = q at *
      conv => whnf
      refine CallVC.look hrb rfl ?_
      rintro _ rfl
      conv => whnf
      refine CallVC.look hrh rfl ?_
      rintro _ rfl
      cases h2 : has Q p with
      | true =>
        rw [h2] at hst
        conv => whnf
        rw [IntWalk.i64_in (cnt (has Q) a (p - a).toNat + q) (by omega), IntWalk.i64_in (cnt (has Q) a (p - a).toNat + q - p) (by omega)]
        refine ⟨q, [], [], ?_, ⟨by omega, .inr g2⟩, by show (b - q).toNat < (b - p).toNat; omega⟩
        show Cover _ _ _ ⟨[_, (7, intD (cnt (has Q) a (q - a).toNat)), _, _], _, _, _⟩
        rw [show cnt (has Q) a (q - a).toNat = cnt (has Q) a (p - a).toNat + q - p by rw [hst]; show _ + (((q - p).toNat : Nat) : Int) = _; omega]
        repeat' (first | exact trivial | exact .inl (DLe.refl _) | exact .inl (DLe.nil _ _) | (refine .inr ⟨rfl, _, ?_, rfl⟩; rfl) | exact rfl | exact Nat.zero_le _ | constructor)
      | false =>
        rw [h2] at hst
        conv => whnf
        refine ⟨q, [], [], ?_, ⟨by omega, .inr g2⟩, by show (b - q).toNat < (b - p).toNat; omega⟩
        show Cover _ _ _ ⟨[_, (7, intD (cnt (has Q) a (q - a).toNat)), _, _], _, _, _⟩
        rw [show cnt (has Q) a (q - a).toNat = cnt (has Q) a (p - a).toNat by rw [hst]; show _ + (0 : Int) = _; omega]
        repeat' (first | exact trivial | exact .inl (DLe.refl _) | exact .inl (DLe.nil _ _) | (refine .inr ⟨rfl, _, ?_, rfl⟩; rfl) | exact rfl | exact Nat.zero_le _ | constructor)
    · have hge : ¬ p < b := of_decide_eq_false h1
      have he : (p - a).toNat = (b - a).toNat := by omega
      rw [he]
      conv => whnf
      exact ⟨rfl, rfl⟩

/-- The number at which the base is. -/
abbrev baseOf (F M : Int) : Int := (F + M) % 4294967296
theorem rbase_rd (F M : Int) (Q : List (Int × Int)) : FnN Try.prog 19 [.fp (docD F M Q)] fun d => d = .v (.int .u32 (baseOf F M)) := by
  refine fnNOf [] Try.func19 rfl (by kernel_rfl) (Nat.le_of_ble_eq_true rfl) ?_
  conv => whnf
  rw [u32_wrap, u32_wrap, show (F + M % 4294967296) % 4294967296 = (F + M) % 4294967296 by omega]
  exact ⟨rfl, rfl⟩
theorem rway_rd (F M x : Int) (Q : List (Int × Int)) (hM : 0 ≤ M ∧ M ≤ 1099511627776) : FnN Try.prog 16 [.fp (docD F M Q), .v (.int .u32 x)] fun d => d = intD (M + way (baseOf F M) x) := by
  refine fnNOf [] Try.func16 rfl (by kernel_rfl) (Nat.le_of_ble_eq_true rfl) ?_
  conv => whnf
  refine CallVC.look (rbase_rd F M Q) rfl ?_
  rintro _ rfl
  have hwb : 0 ≤ way (baseOf F M) x ∧ way (baseOf F M) x ≤ 4294967295 := by unfold way; omega
  have hw : IntKind.i64.wrap (IntKind.u32.wrap (x - baseOf F M)) = way (baseOf F M) x := by rw [u32_wrap]; unfold way; rw [IntWalk.i64_in _ (by omega)]
  generalize baseOf F M = base at *
  conv => whnf
  rw [hw, IntWalk.i64_in (M + way base x) (by omega)]
  exact ⟨rfl, rfl⟩

/-- One part put; how many are new. -/
def putTo (M b : Int) : Int := match decide (b > M + 2147483648) with
  | true => M + 2147483648
  | false => b
def putQ (M : Int) (Q : List (Int × Int)) (a b : Int) : List (Int × Int) := match decide (a ≥ putTo M b) with
  | true => Q
  | false => Q ++ [(a, putTo M b)]
def putN (M : Int) (Q : List (Int × Int)) (a b : Int) : Int := match decide (a ≥ putTo M b) with
  | true => 0
  | false => putTo M b - a - cnt (has Q) a (putTo M b - a).toNat

theorem rput_ob (F M : Int) (Q : List (Int × Int)) (a b : Int) (hl : Q.length ≤ 900) (hM : 0 ≤ M ∧ M ≤ 549755813888) (ha : 0 ≤ a ∧ a ≤ 1099511627776) (hb : 0 ≤ b ∧ b ≤ 1099511627776) :
    Ob Try.prog 29 40 (docD F M Q) [intD a, intD b] fun d X' => d = intD (putN M Q a b) ∧ X' = docD F M (putQ M Q a b) := by
  refine obOf [] Try.func29 rfl (by kernel_rfl) (Nat.le_of_ble_eq_true rfl) ?_
  have hm : IntKind.i64.wrap (M + 2147483648) = M + 2147483648 := IntWalk.i64_in _ (by omega)
  have hto : 0 ≤ putTo M b ∧ putTo M b ≤ 1099511627776 := by unfold putTo; split <;> omega
  conv => whnf
  rw [hm]
  cases h1 : decide (b > M + 2147483648)
  all_goals
    first
      | (have e : putTo M b = M + 2147483648 := by unfold putTo; rw [h1]
         generalize M + 2147483648 = c at *)
      | (have e : putTo M b = b := by unfold putTo; rw [h1]
         generalize M + 2147483648 = m at *
         generalize b = c at *)
    unfold putQ putN
    rw [e] at hto ⊢
    clear e h1
    conv => whnf
    refine Fork.intro (fun h2 => ?_) (fun h2 => ?_)
    · have h2' : decide (a ≥ c) = true := h2
      rw [h2']
      conv => whnf
      exact ⟨rfl, rfl⟩
    · have h2' : decide (a ≥ c) = false := h2
      have hab := of_decide_eq_false h2'
      rw [h2']
      conv => whnf
      refine CallVC.look (rcount_rd F M Q a c (by omega) ha hto) rfl ?_
      rintro _ rfl
      have hcb := cnt_bound (has Q) a (c - a).toNat
      conv => whnf
      rw [IntWalk.i64_in (c - a) (by omega), IntWalk.i64_in (c - a - cnt (has Q) a (c - a).toNat) (by omega)]
      generalize cnt (has Q) a (c - a).toNat = z at *
      refine ⟨Int × Int, prD, Q, rfl, fun _ => rfl, by omega, by show Q.length * 16 ≤ _; omega, rfl, ?_⟩
      conv => whnf
      (refine ⟨Nat.le_of_ble_eq_true rfl, ?_⟩; conv => whnf)
      refine ⟨Int × Int, prD, Q ++ [(a, c)], by rw [List.map_append]; rfl, fun _ => rfl, by rw [List.length_append]; show _ + 1 ≤ _; omega, by rw [List.length_append]; show (_ + 1) * 16 ≤ _; omega, rfl, ?_⟩
      conv => whnf
      exact ⟨rfl, rfl⟩
end Go.Proofs.Ytclkaacdbhbigaa.V
namespace Go.Proofs.Ytclkaacdbhbigaa.V
open Go.RowKit Sp
attribute [local irreducible] Fn FnN CallVC OpVC Ob

theorem putQ_len (M : Int) (Q : List (Int × Int)) (a b : Int) : (putQ M Q a b).length ≤ Q.length + 1 := by
  unfold putQ
  split
  · omega
  · simp
theorem putN_bound (M : Int) (Q : List (Int × Int)) (a b : Int) (ha : 0 ≤ a) (hb : b ≤ 1099511627776) : 0 ≤ putN M Q a b ∧ putN M Q a b ≤ 1099511627776 := by
  have hto : putTo M b ≤ b := by
    unfold putTo
    split
    · rename_i h; have := of_decide_eq_true h; omega
    · omega
  unfold putN
  split
  · omega
  · rename_i h
    have := of_decide_eq_false h
    have := cnt_bound (has Q) a (putTo M b - a).toNat
    omega
/-- A range added, the document's way. -/
def raddQ (M : Int) (Q : List (Int × Int)) (a n : Int) : List (Int × Int) := match decide (a + n ≤ M + 4294967296) with
  | true => putQ M Q a (a + n)
  | false => putQ M (putQ M Q a (M + 4294967296)) M (a + n - 4294967296)
def raddN (M : Int) (Q : List (Int × Int)) (a n : Int) : Int := match decide (a + n ≤ M + 4294967296) with
  | true => putN M Q a (a + n)
  | false => putN M Q a (M + 4294967296) + putN M (putQ M Q a (M + 4294967296)) M (a + n - 4294967296)

theorem radd_ob (F M : Int) (Q : List (Int × Int)) (r : Rg) (hl : Q.length ≤ 800) (hM : 0 ≤ M ∧ M ≤ 274877906944) (hr : r.ok) :
    Ob Try.prog 13 40 (docD F M Q) [.v (.int .u32 r.fr), .v (.int .u32 r.len)] fun d X' => d = intD (raddN M Q (M + way (baseOf F M) r.fr) r.len) ∧ X' = docD F M (raddQ M Q (M + way (baseOf F M) r.fr) r.len) := by
  refine obOf [(6, [1000])] Try.func13 rfl (by kernel_rfl) (Nat.le_of_ble_eq_true rfl) ?_
  have hwb : 0 ≤ way (baseOf F M) r.fr ∧ way (baseOf F M) r.fr ≤ 4294967295 := by unfold way; omega
  have hlen := hr.len
  have hm : IntKind.i64.wrap (M + 4294967296) = M + 4294967296 := IntWalk.i64_in _ (by omega)
  conv => whnf
  refine CallVC.look (rway_rd F M r.fr Q (by omega)) rfl ?_
  rintro _ rfl
  have ha : M ≤ M + way (baseOf F M) r.fr ∧ M + way (baseOf F M) r.fr ≤ 300000000000 := by omega
  generalize M + way (baseOf F M) r.fr = a at *
  have hb : IntKind.i64.wrap (a + IntKind.i64.wrap r.len) = a + r.len := by rw [IntWalk.i64_in r.len (by omega), IntWalk.i64_in _ (by omega)]
  have hN : raddN M Q a r.len = match decide (a + r.len ≤ M + 4294967296) with
    | true => putN M Q a (a + r.len)
    | false => putN M Q a (M + 4294967296) + putN M (putQ M Q a (M + 4294967296)) M (a + r.len - 4294967296) := rfl
  have hQ : raddQ M Q a r.len = match decide (a + r.len ≤ M + 4294967296) with
    | true => putQ M Q a (a + r.len)
    | false => putQ M (putQ M Q a (M + 4294967296)) M (a + r.len - 4294967296) := rfl
  rw [hN, hQ]
  clear hN hQ
  have hbb : a ≤ a + r.len ∧ a + r.len ≤ 400000000000 := by omega
  generalize hbe : a + r.len = b at *
  conv => whnf
  rw [hb, hm]
  have hw2 : IntKind.i64.wrap (b - 4294967296) = b - 4294967296 := IntWalk.i64_in _ (by omega)
  have hrr : M ≤ M + 4294967296 ∧ M + 4294967296 ≤ 300000000000 := by omega
  generalize hre : M + 4294967296 = rr at *
  refine Fork.intro (fun h1 => ?_) (fun h1 => ?_)
  · have h1' : decide (b ≤ rr) = true := h1
    rw [h1']
    conv => whnf
    refine CallVC.ob (rput_ob F M Q a b (by omega) (by omega) (by omega) (by omega)) rfl rfl rfl ?_
    rintro _ _ ⟨rfl, rfl⟩
    conv => whnf
    exact ⟨rfl, rfl⟩
  · have h1' : decide (b ≤ rr) = false := h1
    have hbr := of_decide_eq_false h1'
    rw [h1']
    have hp1 := rput_ob F M Q a rr (by omega) (by omega) (by omega) (by omega)
    have hq := putQ_len M Q a rr
    have hp2 := rput_ob F M (putQ M Q a rr) M (b - 4294967296) (by omega) (by omega) (by omega) (by omega)
    have n1 := putN_bound M Q a rr (by omega) (by omega)
    have n2 := putN_bound M (putQ M Q a rr) M (b - 4294967296) (by omega) (by omega)
    have hn : IntKind.i64.wrap (putN M Q a rr + putN M (putQ M Q a rr) M (b - 4294967296)) = putN M Q a rr + putN M (putQ M Q a rr) M (b - 4294967296) := IntWalk.i64_in _ (by omega)
    generalize putN M (putQ M Q a rr) M (b - 4294967296) = y at *
    generalize putN M Q a rr = x at *
    generalize hq2 : putQ M (putQ M Q a rr) M (b - 4294967296) = Q2 at *
    generalize putQ M Q a rr = Q1 at *
    conv => whnf
    refine ⟨⟨[(6, intD (IntKind.i64.wrap (x + y)))], [(0, .cells 40 (docD F M Q2))], 1, ([0], 1)⟩, ?_, ?_⟩
    · repeat' (first
        | exact trivial
        | (refine ⟨[], [], ?_⟩; (repeat' (first | exact trivial | exact .inl (DLe.refl _) | exact .inl (DLe.nil _ _) | (refine .inr ⟨rfl, _, ?_, rfl⟩; rfl) | exact rfl | exact Nat.zero_le _ | constructor)); done)
        | (refine CallVC.ob hp1 rfl rfl rfl ?_; rintro _ _ ⟨rfl, rfl⟩)
        | (rw [hw2]; refine CallVC.ob hp2 rfl rfl rfl ?_; rintro _ _ ⟨rfl, rfl⟩)
        | (refine And.intro ?_ ?_)
        | (conv => whnf))
    · rw [hn]
      conv => whnf
      exact ⟨rfl, rfl⟩

/-- The first place that didn't come. -/
theorem rnext_rd {L : List Pc} (F M : Int) (Q : List (Int × Int)) (hR : Rel L M Q) (hl : Q.length ≤ 1000) (hM : 0 ≤ M ∧ M ≤ 549755813888) :
    FnN Try.prog 14 [.fp (docD F M Q)] fun d => d = intD (M + ready L) := by
  refine fnNOf [] Try.func14 rfl (by kernel_rfl) (Nat.le_of_ble_eq_true rfl) ?_
  have hrn := ready_nat hR.canon
  obtain ⟨hra, hrz⟩ := ready_all hR.canon
  have hm : IntKind.i64.wrap (M + 4294967296) = M + 4294967296 := IntWalk.i64_in _ (by omega)
  conv => whnf
  refine ⟨Int, fun p => ⟨[(3, intD p), (0, .fp (docD F M Q))], [], 0, ([], 0)⟩, fun p => M ≤ p ∧ p ≤ M + ready L, fun p => (M + ready L - p).toNat, ⟨M, [], [], ?_, Int.le_refl _, by omega⟩, ?_⟩
  · repeat' (first | exact trivial | exact .inl (DLe.refl _) | exact .inl (DLe.nil _ _) | (refine .inr ⟨rfl, _, ?_, rfl⟩; rfl) | exact rfl | exact Nat.zero_le _ | constructor)
  · rintro p ⟨hp, hpr⟩
    have hlike := hR.like (p - M) (by omega)
    rw [show M + (p - M) = p by omega] at hlike
    have hh := rhas_rd F M Q p hl
    conv => whnf
    refine CallVC.look hh rfl ?_
    rintro _ rfl
    cases h1 : has Q p with
    | true =>
      have hne : p ≠ M + ready L := by
        intro he
        rw [he, show M + ready L - M = ready L by omega, hrz, ← he, h1] at hlike
        cases hlike
      have hb := rbeh_rd F M Q p (M + 4294967296) hl
      have hlt : p < M + 4294967296 := by omega
      obtain ⟨g1, g2, _⟩ := beh_spec (L := Q) hlt
      have hle : beh p Q (M + 4294967296) ≤ M + ready L := by
        by_cases hq : beh p Q (M + 4294967296) ≤ M + ready L
        · exact hq
        · exfalso
          have h2 := has_like (n := M + ready L) (L := Q) hlt (by omega) (by omega)
          rw [h1, ← hR.like (ready L) hrn.1, hrz] at h2
          cases h2
      conv => whnf
      rw [hm]
      refine CallVC.look hb rfl ?_
      rintro _ rfl
      generalize beh p Q (M + 4294967296) = q at *
      conv => whnf
      refine ⟨q, [], [], ?_, ⟨by omega, hle⟩, by show (M + ready L - q).toNat < (M + ready L - p).toNat; omega⟩
      repeat' (first | exact trivial | exact .inl (DLe.refl _) | exact .inl (DLe.nil _ _) | (refine .inr ⟨rfl, _, ?_, rfl⟩; rfl) | exact rfl | exact Nat.zero_le _ | constructor)
    | false =>
      have he : p = M + ready L := by
        by_cases hq : p = M + ready L
        · exact hq
        · exfalso
          rw [hra (p - M) (by omega) (by omega), h1] at hlike
          cases hlike
      conv => whnf
      rw [he]
      exact ⟨rfl, rfl⟩
end Go.Proofs.Ytclkaacdbhbigaa.V
namespace Go.Proofs.Ytclkaacdbhbigaa.V
open Go.RowKit Sp
attribute [local irreducible] Fn FnN CallVC OpVC Ob

theorem len_count : ∀ {L : List Pc}, Canon L → (L.length : Int) ≤ count L
  | [], _ => Int.le_refl _
  | x :: r, h => by
    have h1 := len_count (L := r) ⟨(List.pairwise_cons.1 h.sep).2, fun y hy => h.ok y (List.mem_cons_of_mem _ hy)⟩
    have h2 := (h.ok x List.mem_cons_self).lt
    simp only [count, List.length_cons]
    omega

/-- What was told up to a place: pieces of the same numbers; whether the last one goes on. -/
structure Told (L : List Pc) (k : Int) (P : List Pc) (o : Bool) : Prop where
  lo : 0 ≤ k
  hi : k ≤ 2147483648
  can : Canon P
  mem : ∀ n, mem P n ↔ (mem L n ∧ n < k)
  on : o = true → ∃ I x, P = I ++ [x] ∧ x.to = k
  off : o = false → ∀ x, x ∈ P → x.to < k
theorem told_to {L P : List Pc} {k : Int} {o : Bool} (h : Told L k P o) : ∀ x, x ∈ P → x.to ≤ k := fun x hx => by
  have h1 := (h.can.ok x hx).lt
  have := ((h.mem (x.to - 1)).1 ⟨x, hx, by omega, by omega⟩).2
  omega
theorem told_end {L P : List Pc} {o : Bool} (hL : Canon L) (h : Told L 2147483648 P o) : P = L :=
  canon_ext h.can hL fun n => by
    rw [h.mem]
    exact ⟨fun h => h.1, fun h => ⟨h, by obtain ⟨x, hx, h1, h2⟩ := h; have := (hL.ok x hx).hi; omega⟩⟩
theorem told_skip {L P : List Pc} {k q : Int} {o : Bool} (h : Told L k P o) (hk : k < q) (hq : q ≤ 2147483648) (hno : ∀ n, k ≤ n → n < q → ¬ Sp.mem L n) : Told L q P false :=
  ⟨by have := h.lo; omega, hq, h.can, fun n => by
    rw [h.mem]
    constructor
    · rintro ⟨h1, h2⟩; exact ⟨h1, by omega⟩
    · rintro ⟨h1, h2⟩
      by_cases hn : n < k
      · exact ⟨h1, hn⟩
      · exact absurd h1 (hno n (by omega) h2), (fun h => by cases h), fun _ x hx => by have := told_to h x hx; omega⟩
theorem told_new {L P : List Pc} {k q : Int} (h : Told L k P false) (hk : k < q) (hq : q ≤ 2147483648) (hall : ∀ n, k ≤ n → n < q → Sp.mem L n) : Told L q (P ++ [⟨k, q⟩]) true := by
  have hlo := h.lo
  refine ⟨by omega, hq, ⟨?_, fun x hx => ?_⟩, fun n => ?_, fun _ => ⟨P, _, rfl, rfl⟩, fun h => by cases h⟩
  · rw [List.pairwise_append]
    exact ⟨h.can.sep, List.pairwise_singleton _ _, fun x hx y hy => by rw [List.mem_singleton.1 hy]; exact h.off rfl x hx⟩
  · rcases List.mem_append.1 hx with hx | hx
    · exact h.can.ok x hx
    · rw [List.mem_singleton.1 hx]; exact ⟨hlo, hk, hq⟩
  · rw [mem_append, mem_one, h.mem]
    constructor
    · rintro (⟨h1, h2⟩ | ⟨h1, h2⟩)
      · exact ⟨h1, by omega⟩
      · exact ⟨hall n h1 h2, h2⟩
    · rintro ⟨h1, h2⟩
      by_cases hn : n < k
      · exact .inl ⟨h1, hn⟩
      · exact .inr ⟨by show k ≤ n; omega, h2⟩
theorem told_on {L I : List Pc} {x : Pc} {k q : Int} (h : Told L k (I ++ [x]) true) (hx : x.to = k) (hk : k < q) (hq : q ≤ 2147483648) (hall : ∀ n, k ≤ n → n < q → Sp.mem L n) : Told L q (I ++ [⟨x.fr, q⟩]) true := by
  have hlo := h.lo
  have hs := List.pairwise_append.1 h.can.sep
  have hxo := h.can.ok x (List.mem_append_right _ List.mem_cons_self)
  refine ⟨by omega, hq, ⟨?_, fun y hy => ?_⟩, fun n => ?_, fun _ => ⟨I, _, rfl, rfl⟩, fun h => by cases h⟩
  · rw [List.pairwise_append]
    exact ⟨hs.1, List.pairwise_singleton _ _, fun z hz y hy => by rw [List.mem_singleton.1 hy]; exact hs.2.2 z hz x List.mem_cons_self⟩
  · rcases List.mem_append.1 hy with hy | hy
    · exact h.can.ok y (List.mem_append_left _ hy)
    · rw [List.mem_singleton.1 hy]
      have := hxo.lt; have := hxo.lo
      exact ⟨hxo.lo, by show x.fr < q; omega, hq⟩
  · have hm := h.mem n
    rw [mem_append, mem_one] at hm ⊢
    have := hxo.lt
    constructor
    · rintro (h1 | ⟨h1, h2⟩)
      · have h3 := hm.1 (.inl h1); exact ⟨h3.1, by omega⟩
      · have h1 : x.fr ≤ n := h1
        have h2 : n < q := h2
        by_cases hn : n < k
        · have h3 := hm.1 (.inr ⟨h1, by omega⟩); exact ⟨h3.1, by omega⟩
        · exact ⟨hall n (by omega) h2, h2⟩
    · rintro ⟨h1, h2⟩
      by_cases hn : n < k
      · rcases hm.2 ⟨h1, hn⟩ with h3 | ⟨h3, h4⟩
        · exact .inl h3
        · exact .inr ⟨h3, by show n < q; omega⟩
      · exact .inr ⟨by show x.fr ≤ n; omega, h2⟩

theorem rranges_rd {L : List Pc} (F M : Int) (Q : List (Int × Int)) (hR : Rel L M Q) (hl : Q.length ≤ 1000) (hM : 0 ≤ M ∧ M ≤ 549755813888) :
    FnN Try.prog 24 [.fp (docD F M Q)] fun d => d = rowsR (L.map (rgOf (baseOf F M))) := by
  refine fnNOf [] Try.func24 rfl (by kernel_rfl) (Nat.le_of_ble_eq_true rfl) ?_
  have hm : IntKind.i64.wrap (M + 2147483648) = M + 2147483648 := IntWalk.i64_in _ (by omega)
  conv => whnf
  rw [hm]
  refine ⟨Int × List Pc × Bool, fun p => ⟨[(6, intD p.1), (5, boolD p.2.2), (4, intD (M + 2147483648)), (3, .grow 0), (0, .fp (docD F M Q))], [(0, .grow Rg 66 2 rgD (p.2.1.map (rgOf (baseOf F M))))], 1, ([], 0)⟩,
    fun p => M ≤ p.1 ∧ Told L (p.1 - M) p.2.1 p.2.2, fun p => (M + 2147483648 - p.1).toNat, ⟨(M, [], false), [], [0], ?_, Int.le_refl _, ?_⟩, ?_⟩
  · repeat' (first | exact trivial | exact .inl (DLe.refl _) | exact .inl (DLe.nil _ _) | (refine .inr ⟨rfl, _, ?_, rfl⟩; rfl) | exact rfl | exact Nat.zero_le _ | constructor)
  · show Told L (M - M) [] false
    rw [Int.sub_self]
    exact ⟨Int.le_refl _, by decide, canon_nil, fun n => ⟨fun h => absurd h mem_nil, fun ⟨⟨x, hx, h1, _⟩, h2⟩ => by have := (hR.canon.ok x hx).lo; omega⟩, (fun h => by cases h), fun _ x hx => by cases hx⟩
  · rintro ⟨p, P, o⟩ ⟨hp, hT⟩
    dsimp only at hp hT
    show wpc Try.prog tt _ _ ⟨[(6, intD p), (5, boolD o), (4, intD (M + 2147483648)), (3, .grow 0), (0, .fp (docD F M Q))], [(0, .grow Rg 66 2 rgD (P.map (rgOf (baseOf F M))))], 1, ([], 0)⟩ _
    have hPl := len_count hT.can
    have hPc := count_bound hT.can
    have hThi := hT.hi
    conv => whnf
    refine Fork.intro (fun h1 => ?_) (fun h1 => ?_)
    · have hlt : p < M + 2147483648 := of_decide_eq_true h1
      have hh := rhas_rd F M Q p hl
      have hb := rbeh_rd F M Q p (M + 2147483648) hl
      obtain ⟨g1, g2, _⟩ := beh_spec (L := Q) hlt
      have hlike : ∀ n, p - M ≤ n → n < beh p Q (M + 2147483648) - M → (Sp.mem L n ↔ has Q p = true) := fun n h2 h3 => by
        rw [← memB_iff, hR.like n (by omega), has_like (n := M + n) (L := Q) hlt (by omega) (by omega)]
      generalize beh p Q (M + 2147483648) = q at *
      have hw : IntKind.i64.wrap (q - p) = q - p := IntWalk.i64_in _ (by omega)
      have hw2 : IntKind.u32.wrap (q - p) = q - p := IntWalk.u32_in _ (by omega)
      conv => whnf
      refine CallVC.look hb rfl ?_
      rintro _ rfl
      conv => whnf
      refine CallVC.look hh rfl ?_
      rintro _ rfl
      cases h2 : has Q p with
      | true =>
        rw [h2] at hlike hh
        have hall : ∀ n, p - M ≤ n → n < q - M → Sp.mem L n := fun n h3 h4 => (hlike n h3 h4).2 rfl
        cases o with
        | true =>
          obtain ⟨I, x, rfl, hx⟩ := hT.on rfl
          have hT2 := told_on hT hx (by omega : p - M < q - M) (by omega) hall
          have eA : (I ++ [x]).map (rgOf (baseOf F M)) = I.map (rgOf (baseOf F M)) ++ [rgOf (baseOf F M) x] := by rw [List.map_append]; rfl
          have eB : (I ++ [(⟨x.fr, q - M⟩ : Pc)]).map (rgOf (baseOf F M)) = I.map (rgOf (baseOf F M)) ++ [⟨(baseOf F M + x.fr) % 4294967296, q - M - x.fr⟩] := by rw [List.map_append]; rfl
          have hIl : I.length ≤ 2147483648 := by rw [List.length_append] at hPl; simp only [List.length_cons, List.length_nil] at hPl; omega
          have hgx : rgOf (baseOf F M) x = ⟨(baseOf F M + x.fr) % 4294967296, p - M - x.fr⟩ := by unfold rgOf; rw [hx]
          have hxo := hT.can.ok x (List.mem_append_right _ List.mem_cons_self)
          have hxl := hxo.lo; have hxt := hxo.lt
          rw [eA, hgx]
          have hlen : ((I.map (rgOf (baseOf F M)) ++ [(⟨(baseOf F M + x.fr) % 4294967296, p - M - x.fr⟩ : Rg)]).length : Int) = I.length + 1 := by rw [List.length_append, List.length_map]; simp
          have hIm : (I.map (rgOf (baseOf F M))).length = I.length := List.length_map _
          generalize I.map (rgOf (baseOf F M)) = J at *
          generalize (baseOf F M + x.fr) % 4294967296 = u at *
          conv => whnf
          rw [hlen, show IntKind.i64.wrap ((I.length : Int) + 1 - 1) = (I.length : Int) by rw [IntWalk.i64_in _ (by omega)]; omega]
          refine ⟨rfl, ⟨by omega, by omega⟩, ?_⟩
          conv => whnf
          (refine ⟨by decide, ?_⟩; conv => whnf)
          have hJn : ((I.length : Int)).toNat = J.length := by omega
          have hlast : ∀ y, (J ++ [(⟨u, p - M - x.fr⟩ : Rg)])[((I.length : Int)).toNat]? = some y → y = ⟨u, p - M - x.fr⟩ := fun y hy => by rw [hJn] at hy; simpa using hy.symm
          refine ⟨rfl, by rw [hJn, List.length_append]; show _ < _ + 1; omega, fun y hy => ?_⟩
          obtain rfl := hlast y hy
          conv => whnf
          rw [hw, hw2, show IntKind.u32.wrap (p - M - x.fr + (q - p)) = q - M - x.fr by rw [IntWalk.u32_in _ (by omega)]; omega]
          refine ⟨rfl, ⟨by omega, by omega⟩, ?_⟩
          conv => whnf
          (refine ⟨by decide, ?_⟩; conv => whnf)
          refine ⟨rfl, by rw [hJn, List.length_append]; show _ < _ + 1; omega, fun y hy => ?_⟩
          obtain rfl := hlast y hy
          refine ⟨rfl, ⟨u, q - M - x.fr⟩, rfl, ?_⟩
          rw [show (J ++ [(⟨u, p - M - x.fr⟩ : Rg)]).set ((I.length : Int)).toNat ⟨u, q - M - x.fr⟩ = J ++ [⟨u, q - M - x.fr⟩] by rw [hJn]; simp]
          conv => whnf
          refine CallVC.look hh rfl ?_
          rintro _ rfl
          conv => whnf
          refine CallVC.look hh rfl ?_
          rintro _ rfl
          conv => whnf
          refine ⟨(q, I ++ [⟨x.fr, q - M⟩], true), [], [], ?_, ⟨by show M ≤ q; omega, hT2⟩, by show (M + 2147483648 - q).toNat < (M + 2147483648 - p).toNat; omega⟩
          show Cover _ _ _ ⟨[_, _, _, _, _], [(0, .grow _ _ _ _ ((I ++ [(⟨x.fr, q - M⟩ : Pc)]).map (rgOf (baseOf F M))))], _, _⟩
          rw [eB]
          repeat' (first | exact trivial | exact .inl (DLe.refl _) | exact .inl (DLe.nil _ _) | (refine .inr ⟨rfl, _, ?_, rfl⟩; rfl) | exact rfl | exact Nat.zero_le _ | constructor)
        | false =>
          have hT2 := told_new hT (by omega : p - M < q - M) (by omega) hall
          have eB : (P ++ [(⟨p - M, q - M⟩ : Pc)]).map (rgOf (baseOf F M)) = P.map (rgOf (baseOf F M)) ++ [⟨(F + p) % 4294967296, q - p⟩] := by
            rw [List.map_append]
            congr 1
            show [(⟨((F + M) % 4294967296 + (p - M)) % 4294967296, q - M - (p - M)⟩ : Rg)] = _
            rw [show ((F + M) % 4294967296 + (p - M)) % 4294967296 = (F + p) % 4294967296 by omega, show q - M - (p - M) = q - p by omega]
          have hJl : (P.map (rgOf (baseOf F M))).length ≤ 2147483648 := by rw [List.length_map]; omega
          generalize hJ : P.map (rgOf (baseOf F M)) = J at *
          conv => whnf
          refine CallVC.look hh rfl ?_
          rintro _ rfl
          conv => whnf
          rw [hw, hw2, u32_wrap, u32_wrap, show (F + p % 4294967296) % 4294967296 = (F + p) % 4294967296 by omega]
          (refine ⟨Nat.le_of_ble_eq_true rfl, ?_⟩; conv => whnf)
          refine ⟨Rg, rgD, J ++ [⟨(F + p) % 4294967296, q - p⟩], by rw [List.map_append]; rfl, fun _ => rfl, by rw [List.length_append]; show _ + 1 ≤ _; omega, by rw [List.length_append]; show (_ + 1) * 8 ≤ _; omega, rfl, ?_⟩
          conv => whnf
          refine CallVC.look hh rfl ?_
          rintro _ rfl
          conv => whnf
          refine ⟨(q, P ++ [⟨p - M, q - M⟩], true), [(0, 1)], [], ?_, ⟨by show M ≤ q; omega, hT2⟩, by show (M + 2147483648 - q).toNat < (M + 2147483648 - p).toNat; omega⟩
          show Cover _ _ _ ⟨[_, _, _, _, _], [(0, .grow _ _ _ _ ((P ++ [(⟨p - M, q - M⟩ : Pc)]).map (rgOf (baseOf F M))))], _, _⟩
          rw [eB]
          repeat' (first | exact trivial | exact .inl (DLe.refl _) | exact .inl (DLe.nil _ _) | (refine .inr ⟨rfl, _, ?_, rfl⟩; rfl) | exact rfl | exact Nat.zero_le _ | constructor)
      | false =>
        rw [h2] at hlike hh
        have hT2 := told_skip hT (by omega : p - M < q - M) (by omega) fun n h3 h4 hc => by cases (hlike n h3 h4).1 hc
        conv => whnf
        refine CallVC.look hh rfl ?_
        rintro _ rfl
        conv => whnf
        refine CallVC.look hh rfl ?_
        rintro _ rfl
        conv => whnf
        refine ⟨(q, P, false), [], [], ?_, ⟨by show M ≤ q; omega, hT2⟩, by show (M + 2147483648 - q).toNat < (M + 2147483648 - p).toNat; omega⟩
        repeat' (first | exact trivial | exact .inl (DLe.refl _) | exact .inl (DLe.nil _ _) | (refine .inr ⟨rfl, _, ?_, rfl⟩; rfl) | exact rfl | exact Nat.zero_le _ | constructor)
    · have hge : ¬ p < M + 2147483648 := of_decide_eq_false h1
      have he : p - M = 2147483648 := by omega
      rw [he] at hT
      have hPL := told_end hR.canon hT
      subst hPL
      conv => whnf
      exact ⟨fun _ => rfl, rfl⟩
end Go.Proofs.Ytclkaacdbhbigaa.V
namespace Go.Proofs.Ytclkaacdbhbigaa.V
open Go.RowKit Sp
attribute [local irreducible] Fn FnN CallVC OpVC Ob

theorem findI_any' {α : Type} (p : α → Bool) (L : List α) : decide (findI p L ≥ 0) = L.any p := by
  unfold findI
  cases h : L.findIdx? p with
  | none =>
    rw [List.findIdx?_eq_none_iff] at h
    rw [show L.any p = false from List.any_eq_false.2 fun x hx => by simp [h x hx]]
    rfl
  | some i =>
    rw [List.findIdx?_eq_some_iff_getElem] at h
    obtain ⟨h1, h2, _⟩ := h
    rw [show L.any p = true from List.any_eq_true.2 ⟨_, List.getElem_mem h1, h2⟩]
    exact decide_eq_true (by show (i : Int) ≥ 0; omega)

theorem pbase_rd (base : Int) (L : List Pc) : FnN Try.prog 18 [.fp (setD base L)] fun d => d = .v (.int .u32 base) := by
  refine fnNOf [] Try.func18 rfl (by kernel_rfl) (Nat.le_of_ble_eq_true rfl) ?_
  conv => whnf
  exact ⟨rfl, rfl⟩

theorem pready_rd (base : Int) (L : List Pc) : FnN Try.prog 31 [.fp (setD base L)] fun d => d = intD (ready L) := by
  refine fnNOf [] Try.func31 rfl (by kernel_rfl) (Nat.le_of_ble_eq_true rfl) ?_
  cases L with
  | nil =>
    conv => whnf
    exact ⟨rfl, rfl⟩
  | cons x r =>
    have hlen1 : decide (((x :: r).length : Int) = 0) = false := decide_eq_false (by simp only [List.length_cons]; omega)
    conv => whnf
    rw [hlen1]
    conv => whnf
    refine ⟨rfl, ⟨by omega, by simp only [List.length_cons]; omega⟩, fun y hy => ?_⟩
    obtain rfl : x = y := by simpa using hy
    conv => whnf
    cases h1 : decide (0 < x.fr) with
    | true =>
      have e : ready (x :: r) = 0 := by unfold ready; simp only [h1]
      rw [e]
      conv => whnf
      exact ⟨rfl, rfl⟩
    | false =>
      have e : ready (x :: r) = x.to := by unfold ready; simp only [h1]
      rw [e]
      conv => whnf
      refine ⟨rfl, ⟨by omega, by simp only [List.length_cons]; omega⟩, fun y hy => ?_⟩
      obtain rfl : x = y := by simpa using hy
      conv => whnf
      exact ⟨rfl, rfl⟩

theorem pnext_rd (base : Int) (L : List Pc) : FnN Try.prog 20 [.fp (setD base L)] fun d => d = .v (.int .u32 ((base + ready L) % 4294967296)) := by
  refine fnNOf [] Try.func20 rfl (by kernel_rfl) (Nat.le_of_ble_eq_true rfl) ?_
  conv => whnf
  refine CallVC.look (pbase_rd base L) rfl ?_
  rintro _ rfl
  conv => whnf
  refine CallVC.look (pready_rd base L) rfl ?_
  rintro _ rfl
  generalize ready L = n at *
  conv => whnf
  rw [u32_wrap, u32_wrap, show (base + n % 4294967296) % 4294967296 = (base + n) % 4294967296 by omega]
  exact ⟨rfl, rfl⟩

theorem have1_fn (p : Pc) (n : Int) : Fn Try.prog 34 [.agg (pcD p), .fp [intD n]] fun d => d = boolD (decide (p.fr ≤ n) && decide (n < p.to)) := by
  refine fnOf [] Try.func34 rfl (by kernel_rfl) (Nat.le_of_ble_eq_true rfl) ?_
  conv => whnf
  cases h1 : decide (p.fr ≤ n) <;> cases h2 : decide (n < p.to)
  all_goals
    conv => whnf
    first
      | rfl
      | (rw [h2]; rfl)
theorem indexFuncP_fn (V : List Pc) {f : FuncId} {c : Value} {p : Pc → Bool} (hf : ∀ x, x ∈ V → Fn Try.prog f [.agg (pcD x), .fp [.v c]] fun d => d = boolD (p x)) (hV : V.length ≤ 1000000) :
    Fn Try.prog 37 [rowsP V, .fn f [] [.fp [.v c]]] fun d => d = intD (findI p V) := by
  refine fnOf [] Try.func37 rfl (by kernel_rfl) (Nat.le_of_ble_eq_true rfl) ?_
  conv => whnf
  refine ⟨Nat, fun k => ⟨[(8, intD k), (7, intD V.length), (0, rowsP V), (1, .fn f [] [.fp [.v c]])], [], 0, ([], 0)⟩,
    fun k => k ≤ V.length ∧ ∀ (j : Nat) u, j < k → V[j]? = some u → p u = false, fun k => V.length - k, ⟨0, [], [], ?_, Nat.zero_le _, fun j u h => by omega⟩, ?_⟩
  · repeat' (first | exact trivial | exact .inl (DLe.refl _) | exact .inl (DLe.nil _ _) | (refine .inr ⟨rfl, _, ?_, rfl⟩; rfl) | exact rfl | exact Nat.zero_le _ | constructor)
  · rintro k ⟨hk, hno⟩
    conv => whnf
    refine Fork.intro (fun h1 => ?_) (fun h1 => ?_)
    · have hlt : (k : Int) < V.length := of_decide_eq_true h1
      conv => whnf
      refine ⟨rfl, ⟨by omega, hlt⟩, fun x hx => ?_⟩
      have hxk : V[k]? = some x := by simpa using hx
      conv => whnf
      refine CallVC.pure (hf x (List.mem_of_getElem? hxk)) rfl ?_
      rintro _ rfl
      conv => whnf
      refine Fork.intro (fun h2 => ?_) (fun h2 => ?_)
      · conv => whnf
        rw [findI_at hxk h2 hno]
      · conv => whnf
        rw [wrap_next (show k < V.length by omega) hV]
        refine ⟨k + 1, [], [], ?_, ⟨by omega, no_next hxk h2 hno⟩, by show V.length - (k + 1) < V.length - k; omega⟩
        repeat' (first | exact trivial | exact .inl (DLe.refl _) | exact .inl (DLe.nil _ _) | (refine .inr ⟨rfl, _, ?_, rfl⟩; rfl) | exact rfl | exact Nat.zero_le _ | constructor)
    · have hge : ¬ (k : Int) < V.length := of_decide_eq_false h1
      conv => whnf
      rw [findI_none (fun j u hj => hno j u (by omega))]
theorem containsFuncP_fn (V : List Pc) {f : FuncId} {c : Value} {p : Pc → Bool} (hf : ∀ x, x ∈ V → Fn Try.prog f [.agg (pcD x), .fp [.v c]] fun d => d = boolD (p x)) (hV : V.length ≤ 1000000) :
    Fn Try.prog 33 [rowsP V, .fn f [] [.fp [.v c]]] fun d => d = boolD (V.any p) := by
  refine fnOf [] Try.func33 rfl (by kernel_rfl) (Nat.le_of_ble_eq_true rfl) ?_
  rw [← findI_any']
  conv => whnf
  refine CallVC.pure (indexFuncP_fn V hf hV) rfl ?_
  rintro _ rfl
  conv => whnf

theorem phave_rd (base x : Int) (L : List Pc) (hl : L.length ≤ 1000) : FnN Try.prog 21 [.fp (setD base L), .v (.int .u32 x)] fun d => d = boolD (memB L (way base x)) := by
  refine fnNOf [] Try.func21 rfl (by kernel_rfl) (Nat.le_of_ble_eq_true rfl) ?_
  have hw : IntKind.i64.wrap (IntKind.u32.wrap (x - base)) = way base x := by rw [u32_wrap]; unfold way; rw [IntWalk.i64_in _ (by omega)]
  conv => whnf
  rw [hw]
  generalize way base x = n at *
  refine CallVC.look (.of_flat (containsFuncP_fn L (c := .int .i64 n) (fun p _ => have1_fn p n) (by omega)) fun _ h => by rw [h]; rfl) rfl ?_
  rintro _ rfl
  conv => whnf
  exact ⟨rfl, rfl⟩
end Go.Proofs.Ytclkaacdbhbigaa.V
namespace Go.Proofs.Ytclkaacdbhbigaa.V
open Go.RowKit Sp
attribute [local irreducible] Fn FnN CallVC OpVC Ob

theorem pranges_rd (base : Int) (L : List Pc) (hL : Canon L) (hl : L.length ≤ 1000) :
    FnN Try.prog 23 [.fp (setD base L)] fun d => d = rowsR (L.map (rgOf base)) := by
  refine fnNOf [] Try.func23 rfl (by kernel_rfl) (Nat.le_of_ble_eq_true rfl) ?_
  conv => whnf
  refine ⟨Nat, fun k => ⟨[(14, intD k), (13, intD L.length), (12, rowsP L), (3, .grow 0), (0, .fp (setD base L))], [(0, .grow Rg 32 2 rgD ((L.take k).map (rgOf base)))], 1, ([], 0)⟩,
    fun k => k ≤ L.length, fun k => L.length - k, ⟨0, [], [0], ?_, Nat.zero_le _⟩, ?_⟩
  · repeat' (first | exact trivial | exact .inl (DLe.refl _) | exact .inl (DLe.nil _ _) | (refine .inr ⟨rfl, _, ?_, rfl⟩; rfl) | exact rfl | exact Nat.zero_le _ | constructor)
  · intro k hk
    conv => whnf
    refine Fork.intro (fun h1 => ?_) (fun h1 => ?_)
    · have hlt : (k : Int) < L.length := of_decide_eq_true h1
      conv => whnf
      refine ⟨rfl, ⟨by omega, hlt⟩, fun x hx => ?_⟩
      have hxk : L[k]? = some x := by simpa using hx
      have hxo := hL.ok x (List.mem_of_getElem? hxk)
      have hxl := hxo.lo; have hxt := hxo.lt; have hxh := hxo.hi
      have hnext : (L.take (k + 1)).map (rgOf base) = (L.take k).map (rgOf base) ++ [rgOf base x] := by rw [take_snoc hxk, List.map_append]; rfl
      conv => whnf
      have e1 : IntKind.u32.wrap x.fr = x.fr := IntWalk.u32_in _ (by omega)
      have e2 : IntKind.i64.wrap (x.to - x.fr) = x.to - x.fr := IntWalk.i64_in _ (by omega)
      have e3 : IntKind.u32.wrap (x.to - x.fr) = x.to - x.fr := IntWalk.u32_in _ (by omega)
      rw [e1, e2, e3, u32_wrap]
      (refine ⟨Nat.le_of_ble_eq_true rfl, ?_⟩; conv => whnf)
      refine ⟨Rg, rgD, (L.take k).map (rgOf base) ++ [rgOf base x], by rw [List.map_append]; rfl, fun _ => rfl, by rw [List.length_append, List.length_map, List.length_take]; show _ + 1 ≤ _; omega, by rw [List.length_append, List.length_map, List.length_take]; show (_ + 1) * 8 ≤ _; omega, rfl, ?_⟩
      rw [← hnext]
      conv => whnf
      rw [wrap_next (show k < 1000 by omega) (by omega)]
      refine ⟨k + 1, [(0, 2)], [], ?_, by show k + 1 ≤ _; omega, by show L.length - (k + 1) < L.length - k; omega⟩
      repeat' (first | exact trivial | exact .inl (DLe.refl _) | exact .inl (DLe.nil _ _) | (refine .inr ⟨rfl, _, ?_, rfl⟩; rfl) | exact rfl | exact Nat.zero_le _ | constructor)
    · have hge : ¬ (k : Int) < L.length := of_decide_eq_false h1
      have he : L.take k = L := List.take_of_length_le (by omega)
      rw [he]
      conv => whnf
      exact ⟨fun _ => rfl, rfl⟩

theorem plen_rd (base : Int) (L : List Pc) (hL : Canon L) (hl : L.length ≤ 1000) :
    FnN Try.prog 25 [.fp (setD base L)] fun d => d = intD (count L) := by
  refine fnNOf [] Try.func25 rfl (by kernel_rfl) (Nat.le_of_ble_eq_true rfl) ?_
  conv => whnf
  refine CallVC.look (pranges_rd base L hL hl) rfl ?_
  rintro _ rfl
  conv => whnf
  refine ⟨Nat, fun k => ⟨[(9, intD k), (8, intD L.length), (7, rowsR (L.map (rgOf base))), (3, intD (count (L.take k)))], [], 0, ([], 0)⟩,
    fun k => k ≤ L.length, fun k => L.length - k, ⟨0, [], [], ?_, Nat.zero_le _⟩, ?_⟩
  · rw [List.length_map]
    repeat' (first | exact trivial | exact .inl (DLe.refl _) | exact .inl (DLe.nil _ _) | (refine .inr ⟨rfl, _, ?_, rfl⟩; rfl) | exact rfl | exact Nat.zero_le _ | constructor)
  · intro k hk
    conv => whnf
    refine Fork.intro (fun h1 => ?_) (fun h1 => ?_)
    · have hlt : (k : Int) < L.length := of_decide_eq_true h1
      conv => whnf
      refine ⟨rfl, ⟨by omega, by rw [List.length_map]; exact hlt⟩, fun y hy => ?_⟩
      obtain ⟨x, hxk, rfl⟩ := map_get (show (L.map (rgOf base))[k]? = some y by simpa using hy)
      have hxo := hL.ok x (List.mem_of_getElem? hxk)
      have hxl := hxo.lo; have hxt := hxo.lt; have hxh := hxo.hi
      have c1 := count_bound (L := L.take k) ⟨hL.sep.sublist (List.take_sublist k L), fun x hx => hL.ok x (List.mem_of_mem_take hx)⟩
      have hnext : count (L.take (k + 1)) = count (L.take k) + (x.to - x.fr) := by rw [take_snoc hxk, count_append]; simp [count]
      conv => whnf
      have e2 : IntKind.i64.wrap (rgOf base x).len = x.to - x.fr := IntWalk.i64_in _ (by show _ ≤ x.to - x.fr ∧ x.to - x.fr ≤ _; omega)
      rw [wrap_next (show k < 1000 by omega) (by omega), e2, IntWalk.i64_in (count (L.take k) + (x.to - x.fr)) (by omega), ← hnext]
      refine ⟨k + 1, [], [], ?_, by show k + 1 ≤ _; omega, by show L.length - (k + 1) < L.length - k; omega⟩
      repeat' (first | exact trivial | exact .inl (DLe.refl _) | exact .inl (DLe.nil _ _) | (refine .inr ⟨rfl, _, ?_, rfl⟩; rfl) | exact rfl | exact Nat.zero_le _ | constructor)
    · have hge : ¬ (k : Int) < L.length := of_decide_eq_false h1
      have he : L.take k = L := List.take_of_length_le (by omega)
      rw [he]
      conv => whnf
      exact ⟨rfl, rfl⟩

theorem map_shift_step {R : List Pc} {k : Nat} {x : Pc} {n : Int} (h : R[k]? = some x) : ((R.take k).map (shift n) ++ R.drop k).set k (shift n x) = (R.take (k + 1)).map (shift n) ++ R.drop (k + 1) := by
  obtain ⟨hk, rfl⟩ := List.getElem?_eq_some_iff.1 h
  have hl : ((R.take k).map (shift n)).length = k := by rw [List.length_map, List.length_take]; omega
  rw [List.drop_eq_getElem_cons hk, List.set_append_right _ _ (by omega), hl, Nat.sub_self, List.set_cons_zero, List.take_add_one, List.getElem?_eq_getElem hk, List.map_append]
  simp

theorem pmove_ob (base : Int) (L : List Pc) (hb : 0 ≤ base ∧ base ≤ 4294967295) (hL : Canon L) (hl : L.length ≤ 1000) :
    Ob Try.prog 15 57 (setD base L) [] fun d X' => d = intD (ready L) ∧ X' = setD ((base + ready L) % 4294967296) (moved L) := by
  refine obOf [] Try.func15 rfl (by kernel_rfl) (Nat.le_of_ble_eq_true rfl) ?_
  have hrn := ready_nat hL
  conv => whnf
  refine CallVC.look (pready_rd base L) rfl ?_
  rintro _ rfl
  conv => whnf
  refine Fork.intro (fun h1 => ?_) (fun h1 => ?_)
  · have h1' : decide (ready L = 0) = true := h1
    have h0 : ready L = 0 := of_decide_eq_true h1'
    have hm : moved L = L := by unfold moved; rw [h1']
    rw [hm, h0, Int.add_zero, show base % 4294967296 = base by omega]
    conv => whnf
    exact ⟨rfl, rfl⟩
  · have h1' : decide (ready L = 0) = false := h1
    have h0 : ready L ≠ 0 := of_decide_eq_false h1'
    have hm : moved L = (L.drop 1).map (shift (ready L)) := by unfold moved; rw [h1']
    have hpos : 0 < L.length := by
      cases L with
      | nil => exact absurd rfl h0
      | cons x r => simp
    rw [hm]
    have htk : L.take (L.length : Int).toNat = L := List.take_of_length_le (by omega)
    have hR : ∀ x, x ∈ L.drop 1 → x.ok := fun x hx => hL.ok x (List.mem_of_mem_drop hx)
    have hRl : (L.drop 1).length ≤ 1000 := by rw [List.length_drop]; omega
    have hu : IntKind.u32.wrap (base + IntKind.u32.wrap (ready L)) = (base + ready L) % 4294967296 := by rw [u32_wrap, u32_wrap]; omega
    generalize ready L = n at *
    conv => whnf
    rw [hu]
    refine ⟨rfl, ⟨by omega, by omega, by omega⟩, ?_⟩
    conv => whnf
    rw [htk, show List.drop (Int.toNat 1) L = L.drop 1 from rfl]
    generalize L.drop 1 = R at *
    refine goIn [] Try.func32 rfl (by kernel_rfl) (Nat.le_of_ble_eq_true rfl) ?_
    conv => whnf
    intro b hb
    conv => whnf
    refine Fork.intro (fun h2 => ?_) (fun h2 => ?_)
    · obtain rfl := hb h2
      conv => whnf
      refine ⟨Nat, fun k => ⟨[(32, intD k), (31, intD (([] : List Pc).length : Nat)), (3, intD n), (0, .loc 0 0)], [(0, .cells 57 [.v (.int .u32 ((base + n) % 4294967296)), .grow 1]), (1, .grow Pc 60 2 pcD ((([] : List Pc).take k).map (shift n) ++ ([] : List Pc).drop k))], 2, ([0], 1)⟩,
        fun k => k ≤ ([] : List Pc).length, fun k => ([] : List Pc).length - k, ⟨0, [], [1], ?_, Nat.zero_le _⟩, ?_⟩
      · repeat' (first | exact trivial | exact .inl (DLe.refl _) | exact .inl (DLe.nil _ _) | (refine .inr ⟨rfl, _, ?_, rfl⟩; rfl) | exact rfl | exact Nat.zero_le _ | constructor)
      · intro k hk
        obtain rfl : k = 0 := Nat.eq_zero_of_le_zero hk
        conv => whnf
        exact ⟨rfl, rfl⟩
    · conv => whnf
      refine ⟨Pc, pcD, R, rfl, fun _ => rfl, by omega, by show R.length * 16 ≤ _; omega, rfl, ?_⟩
      conv => whnf
      refine ⟨Nat, fun k => ⟨[(32, intD k), (31, intD ((R : List Pc).length : Nat)), (3, intD n), (0, .loc 0 0)], [(0, .cells 57 [.v (.int .u32 ((base + n) % 4294967296)), .grow 1]), (1, .grow Pc 60 2 pcD (((R : List Pc).take k).map (shift n) ++ (R : List Pc).drop k))], 2, ([0], 1)⟩,
        fun k => k ≤ (R : List Pc).length, fun k => (R : List Pc).length - k, ⟨0, [(1, 2)], [], ?_, Nat.zero_le _⟩, ?_⟩
      · repeat' (first | exact trivial | exact .inl (DLe.refl _) | exact .inl (DLe.nil _ _) | (refine .inr ⟨rfl, _, ?_, rfl⟩; rfl) | exact rfl | exact Nat.zero_le _ | constructor)
      · intro k hk
        have hlen : ((R.take k).map (shift n) ++ R.drop k).length = R.length := by rw [List.length_append, List.length_map, List.length_take, List.length_drop]; omega
        have hat : ∀ x, R[k]? = some x → ((R.take k).map (shift n) ++ R.drop k)[k]? = some x := fun x hx => by
          rw [List.getElem?_append_right (by rw [List.length_map, List.length_take]; omega), List.length_map, List.length_take, show k - min k R.length = 0 by omega, List.getElem?_drop]
          exact hx
        have hset := fun x (hx : R[k]? = some x) => map_shift_step (n := n) hx
        generalize hG : (R.take k).map (shift n) ++ R.drop k = G at *
        show wpc Try.prog tt _ _ ⟨[(32, intD k), (31, intD R.length), (3, intD n), (0, .loc 0 0)], [(0, .cells 57 [.v (.int .u32 ((base + n) % 4294967296)), .grow 1]), (1, .grow Pc 60 2 pcD ((R.take k).map (shift n) ++ R.drop k))], 2, ([0], 1)⟩ _
        rw [hG]
        conv => whnf
        refine Fork.intro (fun h3 => ?_) (fun h3 => ?_)
        · have hlt : (k : Int) < R.length := of_decide_eq_true h3
          obtain ⟨x, hx⟩ : ∃ x, R[k]? = some x := ⟨_, List.getElem?_eq_getElem (by omega)⟩
          have hxo := hR x (List.mem_of_getElem? hx)
          have hx1 := hxo.lo; have hx2 := hxo.lt; have hx3 := hxo.hi
          have hgx := hat x hx
          have hgs := hset x hx
          conv => whnf
          have hkn : ((k : Int)).toNat = k := by omega
          have e1 : IntKind.i64.wrap (x.fr - n) = x.fr - n := IntWalk.i64_in _ (by omega)
          have e2 : IntKind.i64.wrap (x.to - n) = x.to - n := IntWalk.i64_in _ (by omega)
          refine ⟨rfl, ⟨by omega, by omega⟩, ?_⟩
          conv => whnf
          refine ⟨rfl, by rw [hkn]; omega, fun y hy => ?_⟩
          obtain rfl : x = y := Option.some.inj (hgx.symm.trans (by simpa using hy))
          conv => whnf
          refine ⟨rfl, ⟨by omega, by omega⟩, ?_⟩
          conv => whnf
          refine ⟨rfl, by rw [hkn]; omega, fun y hy => ?_⟩
          obtain rfl : x = y := Option.some.inj (hgx.symm.trans (by simpa using hy))
          conv => whnf
          rw [e1, e2]
          refine ⟨rfl, ⟨by omega, by omega⟩, ?_⟩
          conv => whnf
          refine ⟨rfl, by rw [hkn]; omega, fun y hy => ?_⟩
          refine ⟨rfl, shift n x, rfl, ?_⟩
          rw [hkn, hgs]
          conv => whnf
          rw [wrap_next (show k < 1000 by omega) (by omega)]
          refine ⟨k + 1, [], [], ?_, by show k + 1 ≤ _; omega, by show R.length - (k + 1) < R.length - k; omega⟩
          repeat' (first | exact trivial | exact .inl (DLe.refl _) | exact .inl (DLe.nil _ _) | (refine .inr ⟨rfl, _, ?_, rfl⟩; rfl) | exact rfl | exact Nat.zero_le _ | constructor)
        · have hge : ¬ (k : Int) < R.length := of_decide_eq_false h3
          have he : G = R.map (shift n) := by rw [← hG, List.take_of_length_le (by omega), List.drop_eq_nil_of_le (by omega), List.append_nil]
          rw [he]
          conv => whnf
          exact ⟨rfl, rfl⟩
end Go.Proofs.Ytclkaacdbhbigaa.V
namespace Go.Proofs.Ytclkaacdbhbigaa.V
open Go.RowKit Sp
attribute [local irreducible] Fn FnN CallVC OpVC Ob

/-- The first part of a range. -/
def first1 (a b : Int) : List Pc := match decide (a < 2147483648) && decide (a < b) with
  | true => [⟨a, min b 2147483648⟩]
  | false => []
theorem put1_rel {L : List Pc} {M : Int} {Q : List (Int × Int)} {a b : Int} (h : Rel L M Q) (ha : 0 ≤ a) :
    Rel (addF L (first1 a b)) M (putQ M Q (M + a) (M + b)) ∧ addN L (first1 a b) = putN M Q (M + a) (M + b) := by
  have hto : putTo M (M + b) = M + min b 2147483648 := by
    unfold putTo
    split
    · rename_i h1; have := of_decide_eq_true h1; omega
    · rename_i h1; have := of_decide_eq_false h1; omega
  unfold putQ putN first1
  rw [hto]
  cases h1 : decide (M + a ≥ M + min b 2147483648) with
  | true =>
    have h1 := of_decide_eq_true h1
    rw [show (decide (a < 2147483648) && decide (a < b)) = false by
      rw [Bool.and_eq_false_iff, decide_eq_false_iff_not, decide_eq_false_iff_not]; omega]
    exact ⟨h, rfl⟩
  | false =>
    have h1 := of_decide_eq_false h1
    rw [show (decide (a < 2147483648) && decide (a < b)) = true by
      rw [Bool.and_eq_true, decide_eq_true_eq, decide_eq_true_eq]; omega]
    obtain ⟨g1, g2⟩ := put_rel (L := L) (M := M) (Q := Q) (a := a) (b := min b 2147483648) h ⟨ha, by show a < min b 2147483648; omega, by show min b 2147483648 ≤ _; omega⟩
    refine ⟨g1, ?_⟩
    show layN L ⟨a, min b 2147483648⟩ + 0 = _
    rw [g2, show M + min b 2147483648 - (M + a) = min b 2147483648 - a by omega]
    exact Int.add_zero _
/-- A range added to both. -/
theorem radd_rel {L : List Pc} {F M : Int} {Q : List (Int × Int)} (r : Rg) (h : Rel L M Q) (hr : r.ok) :
    Rel (addF L (pcs (baseOf F M) r)) M (raddQ M Q (M + way (baseOf F M) r.fr) r.len) ∧ addN L (pcs (baseOf F M) r) = raddN M Q (M + way (baseOf F M) r.fr) r.len := by
  have hwb : 0 ≤ way (baseOf F M) r.fr ∧ way (baseOf F M) r.fr ≤ 4294967295 := by unfold way; omega
  have hlen := hr.len
  unfold pcs
  generalize way (baseOf F M) r.fr = a at *
  have hp : pcsAt a (a + r.len) = first1 a (a + r.len) ++ (match decide (4294967296 < a + r.len) with
    | true => [⟨0, min (a + r.len - 4294967296) 2147483648⟩]
    | false => []) := rfl
  rw [hp, addF_append, addN_append]
  unfold raddQ raddN
  have hb : M + a + r.len = M + (a + r.len) := by omega
  rw [hb]
  generalize a + r.len = b at *
  cases h1 : decide (M + b ≤ M + 4294967296) with
  | true =>
    have h1 := of_decide_eq_true h1
    rw [decide_eq_false (by omega : ¬ (4294967296 : Int) < b)]
    obtain ⟨g1, g2⟩ := put1_rel (b := b) h hwb.1
    refine ⟨g1, ?_⟩
    show addN L (first1 a b) + 0 = _
    rw [g2]
    show putN M Q (M + a) (M + b) + 0 = putN M Q (M + a) (M + b)
    omega
  | false =>
    have h1 := of_decide_eq_false h1
    have hbl : (4294967296 : Int) < b := by omega
    rw [decide_eq_true hbl]
    have e1 : first1 a b = first1 a 4294967296 := by
      unfold first1
      rw [show decide (a < b) = true from decide_eq_true (by omega), show decide (a < 4294967296) = true from decide_eq_true (by omega), show min b 2147483648 = 2147483648 by omega, show min (4294967296 : Int) 2147483648 = 2147483648 by omega]
    have e2 : ([⟨0, min (b - 4294967296) 2147483648⟩] : List Pc) = first1 0 (b - 4294967296) := by
      unfold first1
      rw [show decide ((0 : Int) < b - 4294967296) = true from decide_eq_true (by omega)]
      rfl
    obtain ⟨g1, g2⟩ := put1_rel (b := 4294967296) h hwb.1
    rw [← e1] at g1 g2
    obtain ⟨g3, g4⟩ := put1_rel (a := 0) (b := b - 4294967296) g1 (Int.le_refl _)
    rw [← e2, Int.add_zero, show M + (b - 4294967296) = M + b - 4294967296 by omega] at g3 g4
    exact ⟨g3, by rw [g2]; show _ + addN _ [_] = _; rw [g4]⟩
theorem raddQ_len (M : Int) (Q : List (Int × Int)) (a n : Int) : (raddQ M Q a n).length ≤ Q.length + 2 := by
  unfold raddQ
  split
  · have := putQ_len M Q a (a + n); omega
  · have := putQ_len M (putQ M Q a (M + 4294967296)) M (a + n - 4294967296)
    have := putQ_len M Q a (M + 4294967296)
    omega
theorem moved_len (L : List Pc) : (moved L).length ≤ L.length := by
  unfold moved
  split
  · exact Nat.le_refl _
  · rw [List.length_map, List.length_drop]; omega
/-- All counted, the document's way. -/
theorem count_doc {L : List Pc} {M : Int} {Q : List (Int × Int)} (h : Rel L M Q) : cnt (has Q) M 2147483648 = count L := by
  rw [count_cnt (a := 0) (k := 2147483648) h.canon fun x hx => ⟨(h.canon.ok x hx).lo, by have := (h.canon.ok x hx).hi; omega⟩]
  have : ∀ k : Nat, cnt (has Q) M k = cnt (memB L) 0 k := by
    intro k
    induction k with
    | zero => rfl
    | succ k ih =>
      show cnt (has Q) M k + _ = cnt (memB L) 0 k + _
      rw [ih, h.like (0 + k) (by omega), show M + (0 + (k : Int)) = M + k by omega]
  exact this _

theorem same_rd (A : List Rg) (hl : A.length ≤ 1000) : FnN Try.prog 22 [rowsR A, rowsR A] fun d => d = boolD true := by
  refine fnNOf [] Try.func22 rfl (by kernel_rfl) (Nat.le_of_ble_eq_true rfl) ?_
  conv => whnf
  rw [show (!decide ((A.length : Int) = (A.length : Int))) = false by simp]
  conv => whnf
  refine ⟨Nat, fun k => ⟨[(5, intD k), (1, rowsR A), (0, rowsR A)], [], 0, ([], 0)⟩, fun k => k ≤ A.length, fun k => A.length - k, ⟨0, [], [], ?_, Nat.zero_le _⟩, ?_⟩
  · repeat' (first | exact trivial | exact .inl (DLe.refl _) | exact .inl (DLe.nil _ _) | (refine .inr ⟨rfl, _, ?_, rfl⟩; rfl) | exact rfl | exact Nat.zero_le _ | constructor)
  · intro k hk
    conv => whnf
    refine Fork.intro (fun h1 => ?_) (fun h1 => ?_)
    · have hlt : (k : Int) < A.length := of_decide_eq_true h1
      conv => whnf
      refine ⟨rfl, ⟨by omega, hlt⟩, fun x hx => ?_⟩
      have hxk : A[k]? = some x := by simpa using hx
      conv => whnf
      refine ⟨rfl, ⟨by omega, hlt⟩, fun x' hx' => ?_⟩
      obtain rfl : x = x' := Option.some.inj (hxk.symm.trans (by simpa using hx'))
      conv => whnf
      (refine ⟨by decide, ?_⟩; conv => whnf)
      rw [show (!decide (x.fr = x.fr)) = false by simp]
      conv => whnf
      refine ⟨rfl, ⟨by omega, hlt⟩, fun x' hx' => ?_⟩
      obtain rfl : x = x' := Option.some.inj (hxk.symm.trans (by simpa using hx'))
      conv => whnf
      refine ⟨rfl, ⟨by omega, hlt⟩, fun x' hx' => ?_⟩
      obtain rfl : x = x' := Option.some.inj (hxk.symm.trans (by simpa using hx'))
      conv => whnf
      (refine ⟨by decide, ?_⟩; conv => whnf)
      rw [show (!decide (x.len = x.len)) = false by simp]
      conv => whnf
      rw [wrap_next (show k < 1000 by omega) (by omega)]
      refine ⟨k + 1, [], [], ?_, by show k + 1 ≤ _; omega, by show A.length - (k + 1) < A.length - k; omega⟩
      repeat' (first | exact trivial | exact .inl (DLe.refl _) | exact .inl (DLe.nil _ _) | (refine .inr ⟨rfl, _, ?_, rfl⟩; rfl) | exact rfl | exact Nat.zero_le _ | constructor)
    · conv => whnf
      exact ⟨rfl, rfl⟩
end Go.Proofs.Ytclkaacdbhbigaa.V
namespace Go.Proofs.Ytclkaacdbhbigaa.V
open Go.RowKit Sp
attribute [local irreducible] Fn FnN CallVC OpVC Ob

structure SDeed where
  kind : Int
  r : Rg
def sdeedD (d : SDeed) : List D := [intD d.kind, .v (.int .u32 d.r.fr), .v (.int .u32 d.r.len)]
abbrev rowsS (l : List SDeed) : D := .rows SDeed 3 sdeedD l

/-- Where a set and the document's stand behind some deeds. -/
structure At (i : Nat) (L : List Pc) (M : Int) (Q : List (Int × Int)) : Prop where
  rel : Rel L M Q
  lo : 0 ≤ M
  hi : M ≤ (i : Int) * 2147483648
  ll : L.length ≤ 2 * i
  ql : Q.length ≤ 2 * i

set_option maxHeartbeats 1000000 in
theorem spanDoes_fn (F : Int) (l : List SDeed) (x : Int) (hF : 0 ≤ F ∧ F ≤ 4294967295) (hl : ∀ d, d ∈ l → d.r.ok) :
    Fn Try.prog 4 [.v (.int .u32 F), rowsS l, .v (.int .u32 x)] fun d => d = boolD true := by
  refine fnOf [(8, [1000]), (10, [0, 2, 3, 4, 5, 1, 6, 7]), (16, [0, 2, 1, 3, 4, 5, 6, 8, 9, 10, 11, 12, 7, 13, 14, 15, 16, 17, 18, 19, 20, 22, 21, 23, 24, 25, 26, 28, 27, 29, 30, 31, 32, 33, 34, 36, 37, 38, 39, 40, 41, 42, 43, 44, 45, 35, 46, 47, 48])] Try.func4 rfl (by kernel_rfl) (Nat.le_of_ble_eq_true rfl) ?_
  conv => whnf
  refine goIn [] Try.func10 rfl (by kernel_rfl) (Nat.le_of_ble_eq_true rfl) ?_
  conv => whnf
  refine goIn [] Try.func11 rfl (by kernel_rfl) (Nat.le_of_ble_eq_true rfl) ?_
  conv => whnf
  refine ⟨Nat × List Pc × Int × List (Int × Int), fun p => ⟨[(9, intD p.1), (8, .loc 1 0), (7, .loc 0 0), (2, .v (.int .u32 x)), (1, rowsS l)], [(0, .cells 57 (setD (baseOf F p.2.2.1) p.2.1)), (1, .cells 40 (docD F p.2.2.1 p.2.2.2))], 2, ([], 0)⟩,
    fun p => p.1 ≤ l.length ∧ p.1 ≤ 30 ∧ At p.1 p.2.1 p.2.2.1 p.2.2.2, fun p => 30 - p.1, ⟨(0, [], 0, []), [], [], ?_, Nat.zero_le _, Nat.zero_le _, ⟨rel_new 0, Int.le_refl _, Int.le_refl _, Nat.le_refl _, Nat.le_refl _⟩⟩, ?_⟩
  · show Cover _ _ _ ⟨_, [(0, .cells _ (setD (baseOf F 0) [])), _], _, _⟩
    rw [show baseOf F 0 = F by unfold baseOf; omega]
    repeat' (first | exact trivial | exact .inl (DLe.refl _) | exact .inl (DLe.nil _ _) | (refine .inr ⟨rfl, _, ?_, rfl⟩; rfl) | exact rfl | exact Nat.zero_le _ | constructor)
  rintro ⟨i, L, M, Q⟩ ⟨hi, hi30, hAt⟩
  dsimp only at hi hi30 hAt
  show wpc Try.prog tt _ _ ⟨[(9, intD i), (8, .loc 1 0), (7, .loc 0 0), (2, .v (.int .u32 x)), (1, rowsS l)], [(0, .cells 57 (setD (baseOf F M) L)), (1, .cells 40 (docD F M Q))], 2, ([], 0)⟩ _
  have hbb : 0 ≤ baseOf F M ∧ baseOf F M ≤ 4294967295 := by unfold baseOf; omega
  have hMh := hAt.hi
  have hMl := hAt.lo
  have hLl := hAt.ll
  have hQl := hAt.ql
  have hR := hAt.rel
  have hC := hR.canon
  have hrn := ready_nat hC
  -- what is checked behind a deed
  conv => whnf
  refine Fork.intro (fun h1 => ?_) (fun h1 => ?_)
  · have hlt : (i : Int) < l.length := of_decide_eq_true h1
    conv => whnf
    refine Fork.intro (fun h2 => ?_) (fun h2 => ?_)
    · have hlt2 : (i : Int) < 30 := of_decide_eq_true h2
      conv => whnf
      refine ⟨rfl, ⟨by omega, hlt⟩, fun d hd => ?_⟩
      have hdi : l[i]? = some d := by simpa using hd
      have hdr := hl d (List.mem_of_getElem? hdi)
      conv => whnf
      refine Fork.intro (fun h3 => ?_) (fun h3 => ?_)
      have hp := add_ob (baseOf F M) L d.r hC (by omega) hdr
      have hq := radd_ob F M Q d.r (by omega) (by omega) hdr
      obtain ⟨r1, r2⟩ := radd_rel (F := F) d.r hR hdr
      have l1 := add_len (pcs (baseOf F M) d.r) L
      have l2 := pcs_len (baseOf F M) d.r
      have l3 := raddQ_len M Q (M + way (baseOf F M) d.r.fr) d.r.len
      rw [← r2] at hq
      generalize addN L (pcs (baseOf F M) d.r) = n at *
      generalize addF L (pcs (baseOf F M) d.r) = L' at *
      generalize raddQ M Q (M + way (baseOf F M) d.r.fr) d.r.len = Q' at *
      have hAt' : At (i + 1) L' M Q' := ⟨r1, hMl, by omega, by omega, by omega⟩
      conv => whnf
      refine ⟨⟨[(56, boolD (!decide (n = n))), (9, intD i), (8, .loc 1 0), (7, .loc 0 0), (2, .v (.int .u32 x)), (1, rowsS l)], [(0, .cells 57 (setD (baseOf F M) L')), (1, .cells 40 (docD F M Q'))], 2, ([], 0)⟩, ?_, ?_⟩
      · repeat' (first
          | exact trivial
          | (refine ⟨[], [], ?_⟩; (repeat' (first | exact trivial | exact .inl (DLe.refl _) | exact .inl (DLe.nil _ _) | (refine .inr ⟨rfl, _, ?_, rfl⟩; rfl) | exact rfl | exact Nat.zero_le _ | constructor)); done)
          | (refine ⟨rfl, ⟨by omega, hlt⟩, fun d' hd' => ?_⟩; obtain rfl : d = d' := Option.some.inj (hdi.symm.trans (by simpa using hd')))
          | (refine CallVC.ob hp rfl rfl rfl ?_; rintro _ _ ⟨rfl, rfl⟩)
          | (refine CallVC.ob hq rfl rfl rfl ?_; rintro _ _ ⟨rfl, rfl⟩)
          | (refine And.intro ?_ ?_)
          | (conv => whnf))
      rw [show (!decide (n = n)) = false by simp]
      clear hp hq r1 r2 l1 l2 l3 hR hC hrn hAt hMh hMl hLl hQl
      rotate_left
      have hm := pmove_ob (baseOf F M) L hbb hC (by omega)
      have hn := rnext_rd F M Q hR (by omega) (by omega)
      have hAt' : At (i + 1) (moved L) (M + ready L) Q := ⟨move_rel hR, by omega, by omega, by have := moved_len L; omega, by omega⟩
      have hsub : IntKind.i64.wrap (M + ready L - M) = ready L := by rw [IntWalk.i64_in _ (by omega)]; omega
      rw [show (baseOf F M + ready L) % 4294967296 = baseOf F (M + ready L) by unfold baseOf; omega] at hm
      generalize moved L = L' at *
      generalize M + ready L = M' at *
      conv => whnf
      refine CallVC.look hn rfl ?_
      rintro _ rfl
      conv => whnf
      rw [hsub]
      refine CallVC.look hn rfl ?_
      rintro _ rfl
      conv => whnf
      refine CallVC.ob hm rfl rfl rfl ?_
      rintro _ _ ⟨rfl, rfl⟩
      conv => whnf
      rw [show (!decide (ready L = ready L)) = false by simp]
      clear hm hn hsub hR hC hrn hAt hMh hMl hLl hQl
      clear hbb
      generalize Q = Q' at *
      rotate_left
      generalize M = M' at *
      all_goals
        have hR := hAt'.rel
        have hlo := hAt'.lo
        have hhi := hAt'.hi
        have hll := hAt'.ll
        have hql := hAt'.ql
        have hC := hR.canon
        have hrn := ready_nat hC
        have hwb : 0 ≤ way (baseOf F M') x ∧ way (baseOf F M') x ≤ 4294967295 := by unfold way; omega
        have k1 := rway_rd F M' x Q' (by omega)
        have k2 := rhas_rd F M' Q' (M' + way (baseOf F M') x) (by omega)
        have k3 := phave_rd (baseOf F M') x L' (by omega)
        have k4 := pnext_rd (baseOf F M') L'
        have k5 := rnext_rd F M' Q' hR (by omega) (by omega)
        have k6 := pranges_rd (baseOf F M') L' hC (by omega)
        have k7 := rranges_rd F M' Q' hR (by omega) (by omega)
        have k8 := same_rd (L'.map (rgOf (baseOf F M'))) (by rw [List.length_map]; omega)
        have k9 := plen_rd (baseOf F M') L' hC (by omega)
        have k10 := rcount_rd F M' Q' M' (M' + 2147483648) (by omega) (by omega) (by omega)
        rw [show (M' + 2147483648 - M').toNat = 2147483648 by omega, count_doc hR] at k10
        have k11 := pbase_rd (baseOf F M') L'
        have k12 := rbase_rd F M' Q'
        have e1 : IntKind.i64.wrap (M' + 2147483648) = M' + 2147483648 := IntWalk.i64_in _ (by omega)
        have e2 : IntKind.u32.wrap (F + IntKind.u32.wrap (M' + ready L')) = (baseOf F M' + ready L') % 4294967296 := by rw [u32_wrap, u32_wrap]; unfold baseOf; omega
        have hlike := hR.like (way (baseOf F M') x) hwb.1
        rw [← hlike] at k2
        have htop := fun h => memB_top hC (n := way (baseOf F M') x) h
        generalize way (baseOf F M') x = w at *
        generalize memB L' w = hv at *
        generalize count L' = c at *
        generalize L'.map (rgOf (baseOf F M')) = R at *
        generalize (baseOf F M' + ready L') % 4294967296 = nx at *
        generalize M' + ready L' = nq at *
        conv => whnf
        refine CallVC.look k1 rfl ?_
        rintro _ rfl
        conv => whnf
        rw [e1]
        cases h5 : decide (M' + w < M' + 2147483648)
        case' false => rw [show hv = false from htop (by have := of_decide_eq_false h5; omega)] at k3
        all_goals
          conv => whnf
          try (refine CallVC.look k2 rfl ?_; rintro _ rfl; conv => whnf)
          refine CallVC.look k11 rfl ?_
          rintro _ rfl
          conv => whnf
          refine CallVC.look k12 rfl ?_
          rintro _ rfl
          conv => whnf
          rw [show (!decide (baseOf F M' = baseOf F M')) = false by simp]
          conv => whnf
          refine CallVC.look k4 rfl ?_
          rintro _ rfl
          conv => whnf
          refine CallVC.look k5 rfl ?_
          rintro _ rfl
          conv => whnf
          rw [e2, show (!decide (nx = nx)) = false by simp]
          conv => whnf
          refine CallVC.look k3 rfl ?_
          rintro _ rfl
          try (cases hv)
          all_goals
            conv => whnf
            refine CallVC.look k6 rfl ?_
            rintro _ rfl
            conv => whnf
            refine CallVC.look k7 rfl ?_
            rintro _ rfl
            conv => whnf
            refine CallVC.look k8 rfl ?_
            rintro _ rfl
            conv => whnf
            refine CallVC.look k9 rfl ?_
            rintro _ rfl
            conv => whnf
            rw [e1]
            refine CallVC.look k10 rfl ?_
            rintro _ rfl
            conv => whnf
            rw [show (!decide (c = c)) = false by simp]
            conv => whnf
            rw [wrap_next (show i < 30 by omega) (by omega)]
            refine ⟨(i + 1, L', M', Q'), [], [], ?_, ⟨by show i + 1 ≤ _; omega, by show i + 1 ≤ _; omega, hAt'⟩, by show 30 - (i + 1) < 30 - i; omega⟩
            repeat' (first | exact trivial | exact .inl (DLe.refl _) | exact .inl (DLe.nil _ _) | (refine .inr ⟨rfl, _, ?_, rfl⟩; rfl) | exact rfl | exact Nat.zero_le _ | constructor)
    · conv => whnf
      refine CallVC.pure slives_fn rfl ?_
      rintro _ rfl
      conv => whnf
  · conv => whnf
    refine CallVC.pure slives_fn rfl ?_
    rintro _ rfl
    conv => whnf
end Go.Proofs.Ytclkaacdbhbigaa.V
