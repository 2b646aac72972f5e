/-
  Texts of addresses read by the document, by value. Conditions: texts not too long.
-/
import Derived.Test.YtooaeccmkgockaaGreatDoorAfK
namespace Go.Proofs.YtooaeccmkgockaaGreatDoor.V
open Go.RowKit
attribute [local irreducible] Fn FnN OpVC

theorem dcount_dig : ∀ (N : Nat) (r : List Nat) (k : Nat), k < dcount N r → ∃ x, r[k]? = some x ∧ isDig x = true
  | 0, _, _, h => absurd h (Nat.not_lt_zero _)
  | _ + 1, [], _, h => absurd h (Nat.not_lt_zero _)
  | N + 1, c :: r, k, h => by
    rw [dcount] at h
    cases hc : isDig c with
    | false => rw [hc] at h; exact absurd h (Nat.not_lt_zero _)
    | true =>
      rw [hc] at h
      cases k with
      | zero => exact ⟨c, rfl, hc⟩
      | succ k => exact dcount_dig N r k (by simp only [] at h; omega)
theorem dcount_stop : ∀ (N : Nat) (r : List Nat), dcount N r < N → ∀ x, r[dcount N r]? = some x → isDig x = false
  | 0, _, h, _, _ => absurd h (Nat.not_lt_zero _)
  | _ + 1, [], _, x, hx => by simp [dcount] at hx
  | N + 1, c :: r, h, x, hx => by
    rw [dcount] at h hx
    cases hc : isDig c with
    | false => rw [hc] at hx; injection hx with hx; subst hx; exact hc
    | true =>
      rw [hc] at h hx
      simp only [] at h hx
      exact dcount_stop N r (by omega) x (by simpa using hx)
theorem dval_snoc {r : List Nat} {k x : Nat} (hx : r[k]? = some x) : dval (r.take (k + 1)) 0 = dval (r.take k) 0 * 10 + (x - 48) := by
  unfold dval
  rw [List.take_add_one, hx, List.foldl_append]
  rfl
theorem dval_le : ∀ (k : Nat) (r : List Nat), k ≤ 3 → (∀ j, j < k → ∃ x, r[j]? = some x ∧ isDig x = true) → dval (r.take k) 0 < 10 ^ k
  | 0, _, _, _ => by show 0 < 1; decide
  | k + 1, r, hk, h => by
    obtain ⟨x, hx, hd⟩ := h k (Nat.lt_succ_self _)
    have ih := dval_le k r (by omega) (fun j hj => h j (by omega))
    obtain ⟨y, hy, rfl⟩ := isDig_spec hd
    rw [dval_snoc hx, Nat.pow_succ]
    omega

def partD (at_ : Nat) : Option (Nat × Nat) → D
  | some (n, m) => .tup [intD n, intD ((at_ + m : Nat) : Int)]
  | none => .tup [intD 0, intD (-1)]

set_option maxHeartbeats 1000000 in
theorem part_fn (l : List Nat) (hl : Byt l) (hlen : l.length ≤ 100000) (p : Nat) (hp : p ≤ l.length) : Fn Tryz.prog 53 [strD l, intD p] fun d => d = partD p (rpart (l.drop p)) := by
  refine fnOf [] Tryz.func53 rfl (by kernel_rfl) (Nat.le_of_ble_eq_true rfl) ?_
  have hget : ∀ k : Nat, (l.drop p)[k]? = l[p + k]? := fun k => by rw [List.getElem?_drop]
  have hdc := dcount_le 3 (l.drop p)
  have hdig := dcount_dig 3 (l.drop p)
  have hstop := dcount_stop 3 (l.drop p)
  rw [List.length_drop] at hdc
  conv => whnf
  refine ⟨Nat, fun k => ⟨[(7, intD p), (6, intD (dval ((l.drop p).take k) 0)), (1, intD ((p + k : Nat) : Int)), (0, strD l)], [], 0, ([], 0)⟩, fun k => k ≤ dcount 3 (l.drop p), fun k => 3 - k, ⟨0, [], [], ?_, Nat.zero_le _⟩, ?_⟩
  · repeat' (first | exact trivial | exact .inl (DLe.refl _) | exact .inl (DLe.nil _ _) | (refine .inr ⟨rfl, _, ?_, rfl⟩; rfl) | exact rfl | exact Nat.zero_le _ | constructor)
  · intro k hk
    have hk : k ≤ dcount 3 (l.drop p) := hk
    have hv := dval_le k (l.drop p) (by omega) (fun j hj => hdig j (by omega))
    have hp3 : 10 ^ k ≤ 1000 := by
      rcases (by omega : k = 0 ∨ k = 1 ∨ k = 2 ∨ k = 3) with rfl | rfl | rfl | rfl <;> decide
    have hw : IntKind.i64.wrap (((p + k : Nat) : Int) - (p : Int)) = (k : Int) := by rw [IntWalk.i64_in _ (by omega)]; omega
    have hsz : ((strB l).size : Int) = (l.length : Int) := by rw [strB_size]
    by_cases hkd : k < dcount 3 (l.drop p)
    · obtain ⟨x, hx, hdx⟩ := hdig k hkd
      have hsn := dval_snoc hx
      have e1 : IntKind.i64.wrap (((p + k : Nat) : Int) + 1) = ((p + k + 1 : Nat) : Int) := wrap_next (n := 100101) (by omega) (by decide)
      rw [hget] at hx
      have hlt := (List.getElem?_eq_some_iff.1 hx).1
      obtain ⟨y, hy, hxy⟩ := isDig_spec hdx
      have e6 : IntKind.i64.wrap (IntKind.i64.wrap (((dval ((l.drop p).take k) 0 : Nat) : Int) * 10) + IntKind.i64.wrap (IntKind.u8.wrap ((x : Int) - 48))) = ((dval ((l.drop p).take k) 0 * 10 + (x - 48) : Nat) : Int) := by
        rw [u8_small (by omega), IntWalk.i64_in ((x : Int) - 48) (by omega), IntWalk.i64_in (_ * 10) (by omega), IntWalk.i64_in _ (by omega)]; omega
      conv => whnf
      rw [hsz]
      refine Fork.intro (fun g => ?_) (fun g => absurd (of_decide_eq_false g) (by omega))
      conv => whnf
      refine ⟨⟨by omega, by omega⟩, fun b hb => ?_⟩
      have hb := strB_get hl hb
      rw [nat_toNat, hx] at hb
      injection hb with hb
      rw [← hb]
      conv => whnf
      refine Fork.intro (fun g => ?_) (fun g => absurd (of_decide_eq_false g) (by omega))
      conv => whnf
      refine ⟨⟨by omega, by omega⟩, fun b2 hb2 => ?_⟩
      have hb2 := strB_get hl hb2
      rw [nat_toNat, hx] at hb2
      injection hb2 with hb2
      rw [← hb2]
      conv => whnf
      refine Fork.intro (fun g => ?_) (fun g => absurd (of_decide_eq_false g) (by omega))
      conv => whnf
      rw [hw]
      refine Fork.intro (fun g => ?_) (fun g => absurd (of_decide_eq_false g) (by omega))
      conv => whnf
      refine ⟨⟨by omega, by omega⟩, fun b3 hb3 => ?_⟩
      have hb3 := strB_get hl hb3
      rw [nat_toNat, hx] at hb3
      injection hb3 with hb3
      rw [← hb3]
      conv => whnf
      rw [e6, e1]
      refine ⟨k + 1, [], [], ?_, hkd, by show 3 - (k + 1) < 3 - k; omega⟩
      dsimp only
      rw [hsn, show p + (k + 1) = p + k + 1 from rfl]
      repeat' (first | exact trivial | exact .inl (DLe.refl _) | exact .inl (DLe.nil _ _) | (refine .inr ⟨rfl, _, ?_, rfl⟩; rfl) | exact rfl | exact Nat.zero_le _ | constructor)
    · have hke : k = dcount 3 (l.drop p) := by omega
      have hr : rpart (l.drop p) = match decide (k = 0) || decide (255 < dval ((l.drop p).take k) 0) || (decide (1 < k) && decide ((l.drop p)[0]? = some 48)) with
        | true => none
        | false => some (dval ((l.drop p).take k) 0, k) := by unfold rpart; rw [← hke]; rfl
      rw [hr]
      conv => whnf
      rw [hsz]
      cases gA : decide (((p + k : Nat) : Int) < (l.length : Int)) with
      | false =>
        conv => whnf
        cases gE : decide (((p + k : Nat) : Int) = (p : Int)) with
        | true =>
          rw [decide_eq_true (show k = 0 by have := of_decide_eq_true gE; omega)]
          conv => whnf
          rfl
        | false =>
          have hk0 : k ≠ 0 := fun h => by have := of_decide_eq_false gE; omega
          rw [decide_eq_false hk0]
          conv => whnf
          cases gF : decide ((255 : Int) < ((dval ((l.drop p).take k) 0 : Nat) : Int)) with
          | true =>
            rw [decide_eq_true (show 255 < dval ((l.drop p).take k) 0 by have := of_decide_eq_true gF; omega)]
            conv => whnf
            rfl
          | false =>
            rw [decide_eq_false (show ¬ 255 < dval ((l.drop p).take k) 0 by have := of_decide_eq_false gF; omega)]
            conv => whnf
            rw [hw]
            cases gG : decide ((1 : Int) < (k : Int)) with
            | false =>
              rw [decide_eq_false (show ¬ 1 < k by have := of_decide_eq_false gG; omega)]
              conv => whnf
              rfl
            | true =>
              rw [decide_eq_true (show 1 < k by have := of_decide_eq_true gG; omega)]
              conv => whnf
              refine ⟨⟨by omega, by omega⟩, fun b hb => ?_⟩
              have hb := strB_get hl hb
              rw [nat_toNat] at hb
              have h0 : (l.drop p)[0]? = some b.toNat := by rw [hget, Nat.add_zero]; exact hb
              rw [h0]
              conv => whnf
              cases gH : decide ((b.toNat : Int) = 48) with
              | true =>
                rw [decide_eq_true (show some b.toNat = some 48 by congr 1; have := of_decide_eq_true gH; omega)]
                conv => whnf
                rfl
              | false =>
                rw [decide_eq_false (show ¬ some b.toNat = some 48 by intro h; injection h with h; have := of_decide_eq_false gH; omega)]
                conv => whnf
                rfl
      | true =>
        have hlt := of_decide_eq_true gA
        obtain ⟨x, hx⟩ : ∃ x, l[p + k]? = some x := ⟨l[p + k]'(by omega), List.getElem?_eq_getElem _⟩
        have hst : k < 3 → isDig x = false := fun h3 => hstop (by omega) x (by rw [← hke, hget]; exact hx)
        conv => whnf
        refine ⟨⟨by omega, by omega⟩, fun b hb => ?_⟩
        have hb := strB_get hl hb
        rw [nat_toNat, hx] at hb
        injection hb with hb
        rw [← hb]
        conv => whnf
        cases gB : decide ((48 : Int) ≤ (x : Int)) with
        | false =>
          conv => whnf
          cases gE : decide (((p + k : Nat) : Int) = (p : Int)) with
          | true =>
            rw [decide_eq_true (show k = 0 by have := of_decide_eq_true gE; omega)]
            conv => whnf
            rfl
          | false =>
            have hk0 : k ≠ 0 := fun h => by have := of_decide_eq_false gE; omega
            rw [decide_eq_false hk0]
            conv => whnf
            cases gF : decide ((255 : Int) < ((dval ((l.drop p).take k) 0 : Nat) : Int)) with
            | true =>
              rw [decide_eq_true (show 255 < dval ((l.drop p).take k) 0 by have := of_decide_eq_true gF; omega)]
              conv => whnf
              rfl
            | false =>
              rw [decide_eq_false (show ¬ 255 < dval ((l.drop p).take k) 0 by have := of_decide_eq_false gF; omega)]
              conv => whnf
              rw [hw]
              cases gG : decide ((1 : Int) < (k : Int)) with
              | false =>
                rw [decide_eq_false (show ¬ 1 < k by have := of_decide_eq_false gG; omega)]
                conv => whnf
                rfl
              | true =>
                rw [decide_eq_true (show 1 < k by have := of_decide_eq_true gG; omega)]
                conv => whnf
                refine ⟨⟨by omega, by omega⟩, fun b hb => ?_⟩
                have hb := strB_get hl hb
                rw [nat_toNat] at hb
                have h0 : (l.drop p)[0]? = some b.toNat := by rw [hget, Nat.add_zero]; exact hb
                rw [h0]
                conv => whnf
                cases gH : decide ((b.toNat : Int) = 48) with
                | true =>
                  rw [decide_eq_true (show some b.toNat = some 48 by congr 1; have := of_decide_eq_true gH; omega)]
                  conv => whnf
                  rfl
                | false =>
                  rw [decide_eq_false (show ¬ some b.toNat = some 48 by intro h; injection h with h; have := of_decide_eq_false gH; omega)]
                  conv => whnf
                  rfl
        | true =>
          conv => whnf
          refine ⟨⟨by omega, by omega⟩, fun b2 hb2 => ?_⟩
          have hb2 := strB_get hl hb2
          rw [nat_toNat, hx] at hb2
          injection hb2 with hb2
          rw [← hb2]
          conv => whnf
          cases gC : decide ((x : Int) ≤ 57) with
          | false =>
            conv => whnf
            cases gE : decide (((p + k : Nat) : Int) = (p : Int)) with
            | true =>
              rw [decide_eq_true (show k = 0 by have := of_decide_eq_true gE; omega)]
              conv => whnf
              rfl
            | false =>
              have hk0 : k ≠ 0 := fun h => by have := of_decide_eq_false gE; omega
              rw [decide_eq_false hk0]
              conv => whnf
              cases gF : decide ((255 : Int) < ((dval ((l.drop p).take k) 0 : Nat) : Int)) with
              | true =>
                rw [decide_eq_true (show 255 < dval ((l.drop p).take k) 0 by have := of_decide_eq_true gF; omega)]
                conv => whnf
                rfl
              | false =>
                rw [decide_eq_false (show ¬ 255 < dval ((l.drop p).take k) 0 by have := of_decide_eq_false gF; omega)]
                conv => whnf
                rw [hw]
                cases gG : decide ((1 : Int) < (k : Int)) with
                | false =>
                  rw [decide_eq_false (show ¬ 1 < k by have := of_decide_eq_false gG; omega)]
                  conv => whnf
                  rfl
                | true =>
                  rw [decide_eq_true (show 1 < k by have := of_decide_eq_true gG; omega)]
                  conv => whnf
                  refine ⟨⟨by omega, by omega⟩, fun b hb => ?_⟩
                  have hb := strB_get hl hb
                  rw [nat_toNat] at hb
                  have h0 : (l.drop p)[0]? = some b.toNat := by rw [hget, Nat.add_zero]; exact hb
                  rw [h0]
                  conv => whnf
                  cases gH : decide ((b.toNat : Int) = 48) with
                  | true =>
                    rw [decide_eq_true (show some b.toNat = some 48 by congr 1; have := of_decide_eq_true gH; omega)]
                    conv => whnf
                    rfl
                  | false =>
                    rw [decide_eq_false (show ¬ some b.toNat = some 48 by intro h; injection h with h; have := of_decide_eq_false gH; omega)]
                    conv => whnf
                    rfl
          | true =>
            have h3 : ¬ k < 3 := fun h3 => by
              have := hst h3
              unfold isDig at this
              rw [decide_eq_true (show 48 ≤ x by have := of_decide_eq_true gB; omega), decide_eq_true (show x ≤ 57 by have := of_decide_eq_true gC; omega)] at this
              cases this
            conv => whnf
            rw [hw]
            cases gD : decide ((k : Int) < 3) with
            | true => exact absurd (of_decide_eq_true gD) (by omega)
            | false =>
              conv => whnf
              cases gE : decide (((p + k : Nat) : Int) = (p : Int)) with
              | true =>
                rw [decide_eq_true (show k = 0 by have := of_decide_eq_true gE; omega)]
                conv => whnf
                rfl
              | false =>
                have hk0 : k ≠ 0 := fun h => by have := of_decide_eq_false gE; omega
                rw [decide_eq_false hk0]
                conv => whnf
                cases gF : decide ((255 : Int) < ((dval ((l.drop p).take k) 0 : Nat) : Int)) with
                | true =>
                  rw [decide_eq_true (show 255 < dval ((l.drop p).take k) 0 by have := of_decide_eq_true gF; omega)]
                  conv => whnf
                  rfl
                | false =>
                  rw [decide_eq_false (show ¬ 255 < dval ((l.drop p).take k) 0 by have := of_decide_eq_false gF; omega)]
                  conv => whnf
                  rw [hw]
                  cases gG : decide ((1 : Int) < (k : Int)) with
                  | false =>
                    rw [decide_eq_false (show ¬ 1 < k by have := of_decide_eq_false gG; omega)]
                    conv => whnf
                    rfl
                  | true =>
                    rw [decide_eq_true (show 1 < k by have := of_decide_eq_true gG; omega)]
                    conv => whnf
                    refine ⟨⟨by omega, by omega⟩, fun b hb => ?_⟩
                    have hb := strB_get hl hb
                    rw [nat_toNat] at hb
                    have h0 : (l.drop p)[0]? = some b.toNat := by rw [hget, Nat.add_zero]; exact hb
                    rw [h0]
                    conv => whnf
                    cases gH : decide ((b.toNat : Int) = 48) with
                    | true =>
                      rw [decide_eq_true (show some b.toNat = some 48 by congr 1; have := of_decide_eq_true gH; omega)]
                      conv => whnf
                      rfl
                    | false =>
                      rw [decide_eq_false (show ¬ some b.toNat = some 48 by intro h; injection h with h; have := of_decide_eq_false gH; omega)]
                      conv => whnf
                      rfl
/-! END part -/
end Go.Proofs.YtooaeccmkgockaaGreatDoor.V
