/-
  Texts of addresses read whole by the document, by value; short texts. Conditions: texts not too long.
-/
import Derived.Test.YtooaeccmkgockaaGreatDoorAgK
namespace Go.Proofs.YtooaeccmkgockaaGreatDoor.V
open Go.RowKit
attribute [local irreducible] Fn FnN OpVC

structure RAt (l : List Nat) (i p a : Nat) : Prop where
  hp : p ≤ l.length
  ha : a < 256 ^ i
  hi : i ≤ 4
  go : i < 4 → rparse (3 - i) (l.drop p) a = rparse 3 l 0
  done : i = 4 → rparse 3 l 0 = match decide (p = l.length) with
    | true => some a
    | false => none

set_option maxHeartbeats 1000000 in
theorem rparse_fn (l : List Nat) (hl : Byt l) (hlen : l.length ≤ 100000) : Fn Tryz.prog 33 [strD l] fun d => d = addrD (rparse 3 l 0) := by
  refine fnOf [] Tryz.func33 rfl (by kernel_rfl) (Nat.le_of_ble_eq_true rfl) ?_
  have hsz : ((strB l).size : Int) = (l.length : Int) := by rw [strB_size]
  conv => whnf
  refine ⟨Nat × Nat × Nat, fun g => ⟨[(6, intD g.1), (5, intD g.2.1), (4, u32D g.2.2), (0, strD l)], [], 0, ([], 0)⟩, fun g => RAt l g.1 g.2.1 g.2.2, fun g => 4 - g.1, ⟨(0, 0, 0), [], [], ?_, Nat.zero_le _, by decide, by decide, fun _ => rfl, fun h => by cases h⟩, ?_⟩
  · repeat' (first | exact trivial | exact .inl (DLe.refl _) | exact .inl (DLe.nil _ _) | (refine .inr ⟨rfl, _, ?_, rfl⟩; rfl) | exact rfl | exact Nat.zero_le _ | constructor)
  · rintro ⟨i, p, a⟩ ⟨hp, ha, hi, hgo, hdone⟩
    dsimp only at hp ha hi hgo hdone
    dsimp only
    have ew : IntKind.i64.wrap ((i : Int) + 1) = ((i + 1 : Nat) : Int) := wrap_next (n := 10) (by omega) (by decide)
    by_cases h4 : i < 4
    · have hgo := hgo h4
      have ha24 : a < 16777216 := by
        rcases (by omega : i = 0 ∨ i = 1 ∨ i = 2 ∨ i = 3) with rfl | rfl | rfl | rfl <;> omega
      conv => whnf
      refine Fork.intro (fun g => ?_) (fun g => absurd (of_decide_eq_false g) (by omega))
      conv => whnf
      refine CallVC.pure (part_fn l hl hlen p hp) rfl ?_
      rintro _ rfl
      cases hq : rpart (l.drop p) with
      | none =>
        have hn : rparse 3 l 0 = none := by
          rw [← hgo]
          cases h5 : 3 - i with
          | zero => rw [rparse, hq]
          | succ k => rw [rparse, hq]
        rw [hn]
        conv => whnf
        rfl
      | some x =>
        obtain ⟨n, m⟩ := x
        obtain ⟨hn, hm, _⟩ := rpart_some hq
        rw [List.length_drop] at hm
        have e4 : IntKind.u32.wrap (IntKind.u32.wrap ((a : Int) * 256) + IntKind.u32.wrap (n : Int)) = ((a * 256 + n : Nat) : Int) := by
          rw [u32_small (n := (n : Int)) (by omega), u32_small (n := (a : Int) * 256) (by omega), u32_small (by omega)]; omega
        have ha' : a * 256 + n < 256 ^ (i + 1) := by rw [Nat.pow_succ]; omega
        conv => whnf
        rw [e4]
        by_cases h3 : i < 3
        · have hstep : rparse 3 l 0 = match decide ((l.drop p)[m]? = some 46) with
            | true => rparse (3 - (i + 1)) (l.drop (p + m + 1)) (a * 256 + n)
            | false => none := by
            rw [← hgo, show 3 - i = (3 - (i + 1)) + 1 by omega, rparse, hq, show l.drop (p + m + 1) = (l.drop p).drop (m + 1) by rw [List.drop_drop]; rfl]
            rfl
          rw [List.getElem?_drop] at hstep
          refine Fork.intro (fun g => ?_) (fun g => absurd (of_decide_eq_false g) (by omega))
          conv => whnf
          rw [hsz]
          cases gA : decide ((l.length : Int) ≤ ((p + m : Nat) : Int)) with
          | true =>
            rw [List.getElem?_eq_none (by have := of_decide_eq_true gA; omega)] at hstep
            rw [show rparse 3 l 0 = none from hstep]
            conv => whnf
            rfl
          | false =>
            have hlt := of_decide_eq_false gA
            conv => whnf
            refine ⟨⟨by omega, by omega⟩, fun b hb => ?_⟩
            have hb := strB_get hl hb
            rw [nat_toNat] at hb
            rw [hb] at hstep
            conv => whnf
            cases gB : decide ((b.toNat : Int) = 46) with
            | false =>
              rw [decide_eq_false (show ¬ some b.toNat = some 46 by intro h; injection h with h; have := of_decide_eq_false gB; omega)] at hstep
              rw [show rparse 3 l 0 = none from hstep]
              conv => whnf
              rfl
            | true =>
              rw [decide_eq_true (show some b.toNat = some 46 by congr 1; have := of_decide_eq_true gB; omega)] at hstep
              have e5 : IntKind.i64.wrap (((p + m : Nat) : Int) + 1) = ((p + m + 1 : Nat) : Int) := wrap_next (n := 100101) (by omega) (by decide)
              conv => whnf
              rw [ew, e5]
              refine ⟨(i + 1, p + m + 1, a * 256 + n), [], [], ?_, ⟨by show p + m + 1 ≤ _; omega, ha', by show i + 1 ≤ 4; omega, fun _ => hstep.symm, fun h => by have h : i + 1 = 4 := h; omega⟩, by show 4 - (i + 1) < 4 - i; omega⟩
              repeat' (first | exact trivial | exact .inl (DLe.refl _) | exact .inl (DLe.nil _ _) | (refine .inr ⟨rfl, _, ?_, rfl⟩; rfl) | exact rfl | exact Nat.zero_le _ | constructor)
        · obtain rfl : i = 3 := by omega
          have hstep : rparse 3 l 0 = match decide (m = (l.drop p).length) with
            | true => some (a * 256 + n)
            | false => none := by
            rw [← hgo, show 3 - 3 = 0 from rfl, rparse, hq]
            rfl
          rw [List.length_drop] at hstep
          conv => whnf
          rw [ew]
          refine ⟨(3 + 1, p + m, a * 256 + n), [], [], ?_, ⟨by show p + m ≤ _; omega, ha', Nat.le_refl _, fun h => absurd h (Nat.lt_irrefl 4), fun _ => ?_⟩, by show 4 - (3 + 1) < 4 - 3; decide⟩
          · repeat' (first | exact trivial | exact .inl (DLe.refl _) | exact .inl (DLe.nil _ _) | (refine .inr ⟨rfl, _, ?_, rfl⟩; rfl) | exact rfl | exact Nat.zero_le _ | constructor)
          · rw [hstep, show decide (m = l.length - p) = decide (p + m = l.length) from decide_eq_decide.2 (by omega)]
    · have hr := hdone (by omega)
      rw [hr]
      conv => whnf
      refine Fork.intro (fun g => absurd (of_decide_eq_true g) (by omega)) (fun g => ?_)
      conv => whnf
      rw [hsz]
      cases gA : decide ((p : Int) = (l.length : Int)) with
      | true =>
        rw [decide_eq_true (show p = l.length by have := of_decide_eq_true gA; omega)]
        conv => whnf
        rfl
      | false =>
        rw [decide_eq_false (show ¬ p = l.length by have := of_decide_eq_false gA; omega)]
        conv => whnf
        rfl

end Go.Proofs.YtooaeccmkgockaaGreatDoor.V
