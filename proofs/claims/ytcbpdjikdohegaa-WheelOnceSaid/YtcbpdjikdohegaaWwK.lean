/-
  The document's wheel: one stopped, the wheel goes on; rows of alarms are the same; the law's own looking. Conditions: rows not too long, ticks not too great.
-/
import Derived.Test.YtcbpdjikdohegaaWdK
namespace Go.Proofs.Ytcbpdjikdohegaa.V
open Go.RowKit
attribute [local irreducible] Fn FnN OpVC Ob RowFn

theorem eqAlOk : eqOk Try.prog 58 [1, 1] = true := by kernel_rfl

/-- With keys all of their own: which place bears an Id. -/
theorem key_at {L : List Al} (h : L.Pairwise fun a b => a.id ≠ b.id) {n : Int} {i : Nat} {x : Al} (hx : L[i]? = some x) : isId n x = decide ((i : Int) = findI (isId n) L) := by
  rcases findI_cases (isId n) L with ⟨h1, h2⟩ | ⟨k, y, h1, h2, h3, h4⟩
  · rw [h2 x (List.mem_of_getElem? hx), h1]
    exact (decide_eq_false (by omega)).symm
  · rw [h1]
    by_cases hik : i = k
    · subst hik
      rw [hx] at h2; injection h2 with h2; subst h2
      rw [h3]; exact (decide_eq_true rfl).symm
    · rw [decide_eq_false (by omega)]
      cases hc : isId n x with
      | false => rfl
      | true =>
        exfalso
        have he : x = y := keys_one h (List.mem_of_getElem? hx) (List.mem_of_getElem? h2) ((of_decide_eq_true hc).trans (of_decide_eq_true h3).symm)
        subst he
        obtain ⟨hi, e1⟩ := List.getElem?_eq_some_iff.1 hx
        obtain ⟨hk, e2⟩ := List.getElem?_eq_some_iff.1 h2
        rcases Nat.lt_or_ge i k with h5 | h5
        · have := List.pairwise_iff_getElem.1 h i k hi hk h5
          rw [e1, e2] at this; exact this rfl
        · have := List.pairwise_iff_getElem.1 h k i hk hi (by omega)
          rw [e1, e2] at this; exact this rfl
theorem outOf_snoc {L : List Al} {n : Int} {i : Nat} {x : Al} (hx : L[i]? = some x) : outOf n (L.take (i + 1)) = match isId n x with
    | true => outOf n (L.take i)
    | false => outOf n (L.take i) ++ [x] := by
  unfold outOf
  rw [take_snoc hx, List.filter_append]
  cases h : isId n x <;> simp [h]
theorem outOf_le (n : Int) (L : List Al) : (outOf n L).length ≤ L.length := List.length_filter_le _ _
theorem outOf_none {n : Int} {L : List Al} (h : ∀ x, x ∈ L → isId n x = false) : outOf n L = L := List.filter_eq_self.2 fun x hx => by rw [h x hx]; rfl

theorem rstop_ob (now : Int) (L : List Al) (n : Int) (hl : L.length ≤ 100) (hk : L.Pairwise fun a b => a.id ≠ b.id) : Ob Try.prog 28 61 (docD now L) [intD n] fun d X' => d = boolD (L.any (isId n)) ∧ X' = docD now (outOf n L) := by
  refine obOf [] Try.func28 rfl (by kernel_rfl) (Nat.le_of_ble_eq_true rfl) ?_
  have hfind := rfind_rd now L n (by omega)
  have hkey := fun i x (hx : L[i]? = some x) => key_at hk (n := n) hx
  rw [← findI_nonneg (p := isId n)]
  conv => whnf
  refine CallVC.look hfind rfl ?_
  rintro _ rfl
  conv => whnf
  cases h1 : decide (findI (isId n) L < 0) with
  | true =>
    have h1 := of_decide_eq_true h1
    have hno : ∀ x, x ∈ L → isId n x = false := fun x hx => by
      obtain ⟨i, hi⟩ := List.mem_iff_getElem?.1 hx
      rw [hkey i x hi]; exact decide_eq_false (by omega)
    rw [outOf_none hno, decide_eq_false (show ¬ 0 ≤ findI (isId n) L by omega)]
    conv => whnf
    exact ⟨rfl, rfl⟩
  | false =>
    have h1 := of_decide_eq_false h1
    rw [decide_eq_true (show 0 ≤ findI (isId n) L by omega)]
    generalize findI (isId n) L = f at *
    conv => whnf
    refine ⟨Nat, fun i => ⟨[(7, intD i), (6, .grow 1), (5, intD f), (0, .loc 0 0)], [(0, .cells 61 (docD now L)), (1, .grow Al 58 2 alD (outOf n (L.take i)))], 2, ([0], 1)⟩, fun i => i ≤ L.length, fun i => L.length - i, ⟨0, [], [1], ?_, Nat.zero_le _⟩, ?_⟩
    · repeat' (first | exact trivial | exact .inl (DLe.refl _) | exact .inl (DLe.nil _ _) | (refine .inr ⟨rfl, _, ?_, rfl⟩; rfl) | exact rfl | exact Nat.zero_le _ | constructor)
    · intro i hi
      have hle := outOf_le n (L.take i)
      have htl : (L.take i).length ≤ L.length := by rw [List.length_take]; omega
      conv => whnf
      refine Fork.intro (fun g1 => ?_) (fun g1 => ?_)
      · have hlt : (i : Int) < L.length := of_decide_eq_true g1
        obtain ⟨x, hx⟩ : ∃ x, L[i]? = some x := ⟨L[i]'(by omega), List.getElem?_eq_getElem _⟩
        have hk1 := hkey i x hx
        have hsn := outOf_snoc (n := n) hx
        rw [hk1] at hsn
        cases g2 : decide ((i : Int) = f) with
        | true =>
          rw [g2] at hsn
          conv => whnf
          rw [g2]
          conv => whnf
          rw [wrap_next (show i < 100 by omega) (by omega)]
          refine ⟨i + 1, [], [], ?_, by show i + 1 ≤ _; omega, by show L.length - (i + 1) < L.length - i; omega⟩
          show Cover _ _ _ ⟨_, [_, (1, .grow Al _ 2 alD (outOf n (L.take (i + 1))))], _, _⟩
          rw [hsn]
          repeat' (first | exact trivial | exact .inl (DLe.refl _) | exact .inl (DLe.nil _ _) | (refine .inr ⟨rfl, _, ?_, rfl⟩; rfl) | exact rfl | exact Nat.zero_le _ | constructor)
        | false =>
          rw [g2] at hsn
          conv => whnf
          rw [g2]
          conv => whnf
          refine ⟨rfl, ⟨by omega, hlt⟩, each_one hx ?_⟩
          conv => whnf
          (refine ⟨Nat.le_of_ble_eq_true rfl, ?_⟩; conv => whnf)
          refine ⟨Al, alD, outOf n (L.take i) ++ [x], (by rw [List.map_append]; rfl), fun _ => rfl, by simp only [List.length_append, List.length_cons, List.length_nil]; omega, by simp only [List.length_append, List.length_cons, List.length_nil]; omega, rfl, ?_⟩
          conv => whnf
          rw [wrap_next (show i < 100 by omega) (by omega)]
          refine ⟨i + 1, [(1, 2)], [], ?_, by show i + 1 ≤ _; omega, by show L.length - (i + 1) < L.length - i; omega⟩
          show Cover _ _ _ ⟨_, [_, (1, .grow Al _ 2 alD (outOf n (L.take (i + 1))))], _, _⟩
          rw [hsn]
          repeat' (first | exact trivial | exact .inl (DLe.refl _) | exact .inl (DLe.nil _ _) | (refine .inr ⟨rfl, _, ?_, rfl⟩; rfl) | exact rfl | exact Nat.zero_le _ | constructor)
      · have hge : ¬ (i : Int) < L.length := of_decide_eq_false g1
        have hil : L.take i = L := List.take_of_length_le (by omega)
        rw [hil]
        conv => whnf
        exact ⟨rfl, rfl⟩

theorem while_take {p : Al → Bool} : ∀ {L : List Al} {k : Nat}, (∀ (j : Nat) x, j < k → L[j]? = some x → p x = true) → (∀ x, L[k]? = some x → p x = false) → L.takeWhile p = L.take k ∧ L.dropWhile p = L.drop k
  | [], k, _, _ => by simp
  | a :: r, 0, _, h2 => by
    have := h2 a rfl
    rw [List.takeWhile_cons_of_neg (by simp [this]), List.dropWhile_cons_of_neg (by simp [this])]
    exact ⟨rfl, rfl⟩
  | a :: r, k + 1, h1, h2 => by
    have ha := h1 0 a (Nat.succ_pos _) rfl
    obtain ⟨i1, i2⟩ := while_take (L := r) (k := k) (fun j x hj hx => h1 (j + 1) x (by omega) (by simpa using hx)) (fun x hx => h2 x (by simpa using hx))
    rw [List.takeWhile_cons_of_pos ha, List.dropWhile_cons_of_pos ha, i1, i2]
    exact ⟨rfl, rfl⟩

def clampI (n : Int) : Int := match decide (n < 0) with
  | true => 0
  | false => match decide (4095 < n) with
    | true => 4095
    | false => n
theorem clampI_in (n : Int) : 0 ≤ clampI n ∧ clampI n ≤ 4095 ∧ clampI n = min (max n 0) 4095 := by
  unfold clampI
  split
  · rename_i h1; have := of_decide_eq_true h1; omega
  · rename_i h1; have := of_decide_eq_false h1
    split
    · rename_i h2; have := of_decide_eq_true h2; omega
    · rename_i h2; have := of_decide_eq_false h2; omega

theorem rturn_ob (now : Int) (L : List Al) (n : Int) (hl : L.length ≤ 100) (hn : 0 ≤ now ∧ now ≤ 1099511500000) : Ob Try.prog 31 61 (docD now L) [intD n] fun d X' => d = rowsA (L.takeWhile (upTo (now + clampI n))) ∧ X' = docD (now + clampI n) (L.dropWhile (upTo (now + clampI n))) := by
  refine obOf [] Try.func31 rfl (by kernel_rfl) (Nat.le_of_ble_eq_true rfl) ?_
  obtain ⟨c0, c1, _⟩ := clampI_in n
  have hin := in_fn n 0 4095
  have hw : IntKind.i64.wrap (now + clampI n) = now + clampI n := IntWalk.i64_in _ (by omega)
  change Fn _ _ _ (fun d => d = intD (clampI n)) at hin
  generalize clampI n = cn at *
  conv => whnf
  refine CallVC.pure hin rfl ?_
  rintro _ rfl
  conv => whnf
  rw [hw]
  refine ⟨Nat, fun k => ⟨[(5, intD k), (0, .loc 0 0)], [(0, .cells 61 (docD (now + cn) L))], 1, ([0], 1)⟩, fun k => k ≤ L.length ∧ ∀ (j : Nat) x, j < k → L[j]? = some x → upTo (now + cn) x = true, fun k => L.length - k, ⟨0, [], [], ?_, Nat.zero_le _, fun j x h => by omega⟩, ?_⟩
  · repeat' (first | exact trivial | exact .inl (DLe.refl _) | exact .inl (DLe.nil _ _) | (refine .inr ⟨rfl, _, ?_, rfl⟩; rfl) | exact rfl | exact Nat.zero_le _ | constructor)
  · rintro k ⟨hk, hall⟩
    have hout : (∀ x, L[k]? = some x → upTo (now + cn) x = false) → L.takeWhile (upTo (now + cn)) = L.take k ∧ L.dropWhile (upTo (now + cn)) = L.drop k := while_take hall
    conv => whnf
    cases g1 : decide ((k : Int) < L.length) with
    | true =>
      have hlt := of_decide_eq_true g1
      obtain ⟨x, hx⟩ : ∃ x, L[k]? = some x := ⟨L[k]'(by omega), List.getElem?_eq_getElem _⟩
      conv => whnf
      refine ⟨rfl, ⟨by omega, hlt⟩, each_one hx ?_⟩
      conv => whnf
      cases g2 : decide (x.at_ ≤ now + cn) with
      | true =>
        conv => whnf
        rw [wrap_next (show k < 100 by omega) (by omega)]
        refine ⟨k + 1, [], [], ?_, ⟨by omega, fun j y hj hy => ?_⟩, by show L.length - (k + 1) < L.length - k; omega⟩
        · repeat' (first | exact trivial | exact .inl (DLe.refl _) | exact .inl (DLe.nil _ _) | (refine .inr ⟨rfl, _, ?_, rfl⟩; rfl) | exact rfl | exact Nat.zero_le _ | constructor)
        · by_cases hjk : j = k
          · subst hjk; rw [hx] at hy; injection hy with hy; subst hy; exact g2
          · exact hall j y (by omega) hy
      | false =>
        obtain ⟨e1, e2⟩ := hout fun y hy => by rw [hx] at hy; injection hy with hy; subst hy; exact g2
        rw [e1, e2]
        conv => whnf
        refine ⟨rfl, ⟨by omega, by omega, by omega⟩, ?_⟩
        conv => whnf
        refine ⟨rfl, ⟨by omega, by omega, by omega⟩, ?_⟩
        conv => whnf
        have hd : (L.take (L.length : Int).toNat).drop (k : Int).toNat = L.drop k := by
          show (L.take L.length).drop k = _
          rw [List.take_length]
        rw [hd]
        exact ⟨rfl, rfl⟩
    | false =>
      have hge := of_decide_eq_false g1
      obtain ⟨e1, e2⟩ := hout fun y hy => by have := (List.getElem?_eq_some_iff.1 hy).1; omega
      rw [e1, e2]
      conv => whnf
      refine ⟨rfl, ⟨by omega, by omega, by omega⟩, ?_⟩
      conv => whnf
      refine ⟨rfl, ⟨by omega, by omega, by omega⟩, ?_⟩
      conv => whnf
      have hd : (L.take (L.length : Int).toNat).drop (k : Int).toNat = L.drop k := by
        show (L.take L.length).drop k = _
        rw [List.take_length]
      rw [hd]
      exact ⟨rfl, rfl⟩

theorem same_fn (L : List Al) (hl : L.length ≤ 1000) : FnN Try.prog 29 [rowsA L, rowsA L] fun d => d = boolD true := by
  refine FnN.of_flat ?_ (fun d h => by rw [h]; rfl)
  refine fnOf [] Try.func29 rfl (by kernel_rfl) (Nat.le_of_ble_eq_true rfl) ?_
  conv => whnf
  rw [decide_eq_true (show ((L.length : Int) = L.length) from rfl)]
  conv => whnf
  refine ⟨Nat, fun k => ⟨[(5, intD k), (1, rowsA L), (0, rowsA L)], [], 0, ([], 0)⟩, fun k => k ≤ L.length, fun k => L.length - k, ⟨0, [], [], ?_, Nat.zero_le _⟩, ?_⟩
  · repeat' (first | exact trivial | exact .inl (DLe.refl _) | exact .inl (DLe.nil _ _) | (refine .inr ⟨rfl, _, ?_, rfl⟩; rfl) | exact rfl | exact Nat.zero_le _ | constructor)
  · intro k hk
    conv => whnf
    refine Fork.intro (fun h1 => ?_) (fun h1 => ?_)
    · have hlt : (k : Int) < L.length := of_decide_eq_true h1
      obtain ⟨x, hx⟩ : ∃ x, L[k]? = some x := ⟨L[k]'(by omega), List.getElem?_eq_getElem _⟩
      conv => whnf
      refine ⟨rfl, ⟨by omega, hlt⟩, each_one hx ?_⟩
      conv => whnf
      refine ⟨rfl, ⟨by omega, hlt⟩, each_one hx ?_⟩
      conv => whnf
      refine ⟨eqAlOk, rfl, ?_⟩
      conv => whnf
      rw [show eqD [intD x.id, intD x.at_] [intD x.id, intD x.at_] = true by simp [eqD, intD]]
      conv => whnf
      rw [wrap_next (show k < 1000 by omega) (by omega)]
      refine ⟨k + 1, [], [], ?_, by show k + 1 ≤ _; omega, by show L.length - (k + 1) < L.length - k; omega⟩
      repeat' (first | exact trivial | exact .inl (DLe.refl _) | exact .inl (DLe.nil _ _) | (refine .inr ⟨rfl, _, ?_, rfl⟩; rfl) | exact rfl | exact Nat.zero_le _ | constructor)
    · conv => whnf
end Go.Proofs.Ytcbpdjikdohegaa.V
