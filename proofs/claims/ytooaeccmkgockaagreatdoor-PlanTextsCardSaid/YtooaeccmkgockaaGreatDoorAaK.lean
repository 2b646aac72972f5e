/-
  Texts of addresses, as lists of numbers: the program's reading and the document's answer alike. No condition.
-/
import Derived.Test.YtooaeccmkgockaaGreatDoorK1
namespace Go.Proofs.YtooaeccmkgockaaGreatDoor.V

/-! ### Numbers in digits -/
def dig (n : Nat) : List Nat := if n < 10 then [48 + n] else if n < 100 then [48 + n / 10, 48 + n % 10] else [48 + n / 100, 48 + n / 10 % 10, 48 + n % 10]
theorem dig_byt {n : Nat} (h : n < 256) : Byt (dig n) := by
  unfold dig
  intro x hx
  split at hx
  · simp at hx; omega
  · split at hx
    · simp at hx; omega
    · simp at hx; omega
def join4 (a b c d : List Nat) : List Nat := a ++ 46 :: (b ++ 46 :: (c ++ 46 :: d))
def txt (a : Nat) : List Nat := join4 (dig (a / 16777216 % 256)) (dig (a / 65536 % 256)) (dig (a / 256 % 256)) (dig (a % 256))
theorem txt_byt (a : Nat) : Byt (txt a) := by
  unfold txt join4
  have h : ∀ n : Nat, Byt (dig (n % 256)) := fun n => dig_byt (Nat.mod_lt _ (by decide))
  exact (h _).append (.cons (by decide) ((h _).append (.cons (by decide) ((h _).append (.cons (by decide) (h _))))))
theorem dig_len (n : Nat) : (dig n).length ≤ 3 := by unfold dig; split; simp; split <;> simp
theorem txt_len (a : Nat) : (txt a).length ≤ 15 := by
  have h1 := dig_len (a / 16777216 % 256); have h2 := dig_len (a / 65536 % 256); have h3 := dig_len (a / 256 % 256); have h4 := dig_len (a % 256)
  unfold txt join4
  simp only [List.length_append, List.length_cons]
  omega

/-! ### The program's reading -/
structure PS where
  a : Nat
  n : Nat
  p : Nat
  so : Bool
def isDig (c : Nat) : Bool := decide (48 ≤ c) && decide (c ≤ 57)
def pstep (s : PS) (c : Nat) : Option PS := match isDig c with
  | true => match decide (255 < s.n * 10 + (c - 48)) with
    | true => none
    | false => some ⟨s.a, s.n * 10 + (c - 48), s.p, true⟩
  | false => match decide (c = 46) && s.so && decide (s.p < 3) with
    | true => some ⟨s.a * 256 + s.n, 0, s.p + 1, false⟩
    | false => none
def pfold : List Nat → PS → Option PS
  | [], s => some s
  | c :: l, s => match pstep s c with
    | some s' => pfold l s'
    | none => none
structure PInv (s : PS) : Prop where
  n : s.n ≤ 255
  a : s.a < 256 ^ s.p
  p : s.p ≤ 3
theorem PInv.start : PInv ⟨0, 0, 0, false⟩ := ⟨by decide, by decide, by decide⟩
theorem PInv.step {s s' : PS} {c : Nat} (h : PInv s) (hs : pstep s c = some s') : PInv s' := by
  obtain ⟨h1, h2, h3⟩ := h
  unfold pstep at hs
  split at hs
  · split at hs
    · cases hs
    · rename_i h4
      have := of_decide_eq_false h4
      injection hs with hs; subst hs
      exact ⟨by show s.n * 10 + _ ≤ _; omega, h2, h3⟩
  · split at hs
    · rename_i h4
      simp only [Bool.and_eq_true, decide_eq_true_eq] at h4
      injection hs with hs; subst hs
      refine ⟨Nat.zero_le _, ?_, h4.2⟩
      show s.a * 256 + s.n < 256 ^ (s.p + 1)
      rw [Nat.pow_succ]
      omega
    · cases hs
theorem PInv.a24 {s : PS} (h : PInv s) : s.a < 16777216 := by
  have h1 := h.a; have h2 := h.p
  have : s.p = 0 ∨ s.p = 1 ∨ s.p = 2 ∨ s.p = 3 := by omega
  rcases this with h | h | h | h <;> rw [h] at h1 <;> omega
theorem pfold_app : ∀ (a b : List Nat) (s : PS), pfold (a ++ b) s = (pfold a s).bind (pfold b)
  | [], _, _ => rfl
  | c :: a, b, s => by
    rw [List.cons_append, pfold, pfold]
    cases pstep s c with
    | none => rfl
    | some s' => exact pfold_app a b s'

def pParse (l : List Nat) : Option Nat := match pfold l ⟨0, 0, 0, false⟩ with
  | none => none
  | some s => match decide (txt (s.a * 256 + s.n) = l) with
    | true => some (s.a * 256 + s.n)
    | false => none

theorem isDig_add {k : Nat} (h : k < 10) : isDig (48 + k) = true := by unfold isDig; simp; omega
theorem pstep_dig {s : PS} {k : Nat} (h : k < 10) (hn : s.n * 10 + k ≤ 255) : pstep s (48 + k) = some ⟨s.a, s.n * 10 + k, s.p, true⟩ := by
  unfold pstep
  rw [isDig_add h, show 48 + k - 48 = k by omega, decide_eq_false (by omega : ¬ 255 < s.n * 10 + k)]
theorem pfold_dig {n : Nat} (h : n < 256) (a p : Nat) (so : Bool) : pfold (dig n) ⟨a, 0, p, so⟩ = some ⟨a, n, p, true⟩ := by
  unfold dig
  split
  · simp only [pfold]
    rw [pstep_dig (by omega) (by show 0 * 10 + n ≤ 255; omega)]
    show some (PS.mk a (0 * 10 + n) p true) = _
    rw [Nat.zero_mul, Nat.zero_add]
  · split
    · simp only [pfold]
      rw [pstep_dig (by omega) (by show 0 * 10 + n / 10 ≤ 255; omega)]
      simp only []
      rw [pstep_dig (by omega) (by show (0 * 10 + n / 10) * 10 + n % 10 ≤ 255; omega)]
      simp only []
      congr 2
      omega
    · simp only [pfold]
      rw [pstep_dig (by omega) (by show 0 * 10 + n / 100 ≤ 255; omega)]
      simp only []
      rw [pstep_dig (by omega) (by show (0 * 10 + n / 100) * 10 + n / 10 % 10 ≤ 255; omega)]
      simp only []
      rw [pstep_dig (by omega) (by show ((0 * 10 + n / 100) * 10 + n / 10 % 10) * 10 + n % 10 ≤ 255; omega)]
      simp only []
      congr 2
      omega
theorem pstep_dot {a n p : Nat} (hp : p < 3) : pstep ⟨a, n, p, true⟩ 46 = some ⟨a * 256 + n, 0, p + 1, false⟩ := by
  unfold pstep
  rw [show isDig 46 = false from rfl]
  simp only [Bool.and_true]
  rw [decide_eq_true hp]
  rfl
theorem pfold_part {n : Nat} (h : n < 256) (a p : Nat) (hp : p < 3) (r : List Nat) : pfold (dig n ++ 46 :: r) ⟨a, 0, p, false⟩ = pfold r ⟨a * 256 + n, 0, p + 1, false⟩ := by
  rw [pfold_app, pfold_dig h]
  show pfold (46 :: r) _ = _
  rw [pfold, pstep_dot hp]
theorem pfold_join {b0 b1 b2 b3 : Nat} (h0 : b0 < 256) (h1 : b1 < 256) (h2 : b2 < 256) (h3 : b3 < 256) :
    pfold (join4 (dig b0) (dig b1) (dig b2) (dig b3)) ⟨0, 0, 0, false⟩ = some ⟨(b0 * 256 + b1) * 256 + b2, b3, 3, true⟩ := by
  unfold join4
  rw [pfold_part h0 _ _ (by decide), pfold_part h1 _ _ (by decide), pfold_part h2 _ _ (by decide), pfold_dig h3]
  simp only [Nat.zero_mul, Nat.zero_add]
theorem four_eq {v : Nat} (h : v < 4294967296) : ((v / 16777216 % 256 * 256 + v / 65536 % 256) * 256 + v / 256 % 256) * 256 + v % 256 = v := by omega
theorem pParse_txt {v : Nat} (h : v < 4294967296) : pParse (txt v) = some v := by
  unfold pParse
  rw [show pfold (txt v) ⟨0, 0, 0, false⟩ = _ from pfold_join (Nat.mod_lt _ (by decide)) (Nat.mod_lt _ (by decide)) (Nat.mod_lt _ (by decide)) (Nat.mod_lt _ (by decide))]
  simp only []
  rw [four_eq h, decide_eq_true rfl]
theorem pParse_some {l : List Nat} {v : Nat} (h : pParse l = some v) : txt v = l ∧ v < 4294967296 := by
  unfold pParse at h
  cases hq : pfold l ⟨0, 0, 0, false⟩ with
  | none => rw [hq] at h; cases h
  | some s =>
    rw [hq] at h
    simp only [] at h
    split at h
    · rename_i h1
      injection h with h; subst h
      refine ⟨of_decide_eq_true h1, ?_⟩
      have hinv : ∀ (l : List Nat) (s s' : PS), PInv s → pfold l s = some s' → PInv s' := by
        intro l
        induction l with
        | nil => intro s s' h1 h2; injection h2 with h2; subst h2; exact h1
        | cons c l ih =>
          intro s s' h1 h2
          rw [pfold] at h2
          cases hc : pstep s c with
          | none => rw [hc] at h2; cases h2
          | some s1 => rw [hc] at h2; exact ih s1 s' (h1.step hc) h2
      have hi := hinv l _ s .start hq
      have h1 := hi.a24; have h2 := hi.n
      omega
    · cases h

/-! ### The document's answer -/
def dcount : Nat → List Nat → Nat
  | 0, _ => 0
  | _ + 1, [] => 0
  | k + 1, c :: r => match isDig c with
    | true => dcount k r + 1
    | false => 0
def dval (l : List Nat) (n : Nat) : Nat := l.foldl (fun n c => n * 10 + (c - 48)) n
def rpart (r : List Nat) : Option (Nat × Nat) :=
  match decide (dcount 3 r = 0) || decide (255 < dval (r.take (dcount 3 r)) 0) || (decide (1 < dcount 3 r) && decide (r[0]? = some 48)) with
  | true => none
  | false => some (dval (r.take (dcount 3 r)) 0, dcount 3 r)
def rparse : Nat → List Nat → Nat → Option Nat
  | 0, r, a => match rpart r with
    | none => none
    | some (n, m) => match decide (m = r.length) with
      | true => some (a * 256 + n)
      | false => none
  | k + 1, r, a => match rpart r with
    | none => none
    | some (n, m) => match decide (r[m]? = some 46) with
      | true => rparse k (r.drop (m + 1)) (a * 256 + n)
      | false => none

theorem isDig_spec {c : Nat} (h : isDig c = true) : ∃ k, k < 10 ∧ c = 48 + k := by
  unfold isDig at h
  simp only [Bool.and_eq_true, decide_eq_true_eq] at h
  exact ⟨c - 48, by omega, by omega⟩
theorem dcount_le : ∀ (k : Nat) (r : List Nat), dcount k r ≤ r.length ∧ dcount k r ≤ k
  | 0, r => ⟨Nat.zero_le _, Nat.le_refl _⟩
  | _ + 1, [] => ⟨Nat.le_refl _, Nat.zero_le _⟩
  | k + 1, c :: r => by
    rw [dcount]
    have := dcount_le k r
    cases isDig c with
    | true => simp only [List.length_cons]; omega
    | false => exact ⟨Nat.zero_le _, Nat.zero_le _⟩
theorem rpart_some {r : List Nat} {n m : Nat} (h : rpart r = some (n, m)) : n < 256 ∧ m ≤ r.length ∧ r.take m = dig n := by
  have hle := dcount_le 3 r
  unfold rpart at h
  generalize hd : dcount 3 r = d at h hle
  split at h
  · cases h
  · rename_i h1
    injection h with h; injection h with h2 h3
    subst h3
    simp only [Bool.or_eq_false_iff, decide_eq_false_iff_not, Bool.and_eq_false_iff] at h1
    obtain ⟨⟨h4, h5⟩, h6⟩ := h1
    rw [h2] at h5
    refine ⟨by omega, hle.1, ?_⟩
    match r, hd with
    | [], hd => rw [show dcount 3 [] = 0 from rfl] at hd; omega
    | c :: r, hd =>
      rw [dcount] at hd
      cases hc : isDig c with
      | false => rw [hc] at hd; simp only [] at hd; omega
      | true =>
        rw [hc] at hd
        obtain ⟨x, hx, rfl⟩ := isDig_spec hc
        simp only [] at hd
        match r, hd with
        | [], hd =>
          have hd : 1 = d := hd
          subst hd
          have h2 : 0 * 10 + (48 + x - 48) = n := h2
          obtain rfl : x = n := by omega
          show [48 + x] = _
          unfold dig; rw [if_pos hx]
        | c2 :: r, hd =>
          rw [dcount] at hd
          cases hc2 : isDig c2 with
          | false =>
            rw [hc2] at hd
            have hd : 1 = d := hd
            subst hd
            have h2 : 0 * 10 + (48 + x - 48) = n := h2
            obtain rfl : x = n := by omega
            show [48 + x] = _
            unfold dig; rw [if_pos hx]
          | true =>
            rw [hc2] at hd
            obtain ⟨y, hy, rfl⟩ := isDig_spec hc2
            simp only [] at hd
            have hx0 : 1 < d → x ≠ 0 := fun hd1 hx0 => by
              rcases h6 with h6 | h6
              · exact h6 hd1
              · exact h6 (by rw [hx0]; rfl)
            match r, hd with
            | [], hd =>
              have hd : 2 = d := hd
              subst hd
              have h2 : (0 * 10 + (48 + x - 48)) * 10 + (48 + y - 48) = n := h2
              have := hx0 (by decide)
              show [48 + x, 48 + y] = _
              unfold dig; rw [if_neg (by omega), if_pos (by omega)]
              rw [show n / 10 = x by omega, show n % 10 = y by omega]
            | c3 :: r, hd =>
              rw [dcount] at hd
              cases hc3 : isDig c3 with
              | false =>
                rw [hc3] at hd
                have hd : 2 = d := hd
                subst hd
                have h2 : (0 * 10 + (48 + x - 48)) * 10 + (48 + y - 48) = n := h2
                have := hx0 (by decide)
                show [48 + x, 48 + y] = _
                unfold dig; rw [if_neg (by omega), if_pos (by omega)]
                rw [show n / 10 = x by omega, show n % 10 = y by omega]
              | true =>
                rw [hc3] at hd
                obtain ⟨z, hz, rfl⟩ := isDig_spec hc3
                have hd : 3 = d := hd
                subst hd
                have h2 : ((0 * 10 + (48 + x - 48)) * 10 + (48 + y - 48)) * 10 + (48 + z - 48) = n := h2
                have := hx0 (by decide)
                show [48 + x, 48 + y, 48 + z] = _
                unfold dig; rw [if_neg (by omega), if_neg (by omega)]
                rw [show n / 100 = x by omega, show n / 10 % 10 = y by omega, show n % 10 = z by omega]
theorem rpart_of {r : List Nat} {n m : Nat} (hc : dcount 3 r = m) (hv : dval (r.take m) 0 = n) (hm : m ≠ 0) (hn : n < 256) (hz : 1 < m → r[0]? ≠ some 48) : rpart r = some (n, m) := by
  unfold rpart
  rw [hc, hv, decide_eq_false hm, decide_eq_false (by omega : ¬ 255 < n)]
  by_cases h : 1 < m
  · rw [decide_eq_false (hz h)]; simp
  · rw [decide_eq_false h]; simp
theorem rpart_dig {n : Nat} (h : n < 256) (r : List Nat) (hr : r = [] ∨ ∃ r', r = 46 :: r') : rpart (dig n ++ r) = some (n, (dig n).length) := by
  have hstop : ∀ k, dcount k r = 0 := fun k => by
    rcases hr with rfl | ⟨r', rfl⟩ <;> cases k <;> rfl
  by_cases h1 : n < 10
  · have e : dig n = [48 + n] := by unfold dig; rw [if_pos h1]
    rw [e]
    refine rpart_of ?_ (by show 0 * 10 + (48 + n - 48) = n; omega) (by simp) h (fun hh => absurd hh (by simp))
    show dcount 3 ((48 + n) :: r) = 1
    rw [dcount, isDig_add h1]; simp only []; rw [hstop]
  · by_cases h2 : n < 100
    · have e : dig n = [48 + n / 10, 48 + n % 10] := by unfold dig; rw [if_neg h1, if_pos h2]
      rw [e]
      refine rpart_of ?_ (by show (0 * 10 + (48 + n / 10 - 48)) * 10 + (48 + n % 10 - 48) = n; omega) (by simp) h (fun _ hh => ?_)
      · show dcount 3 ((48 + n / 10) :: (48 + n % 10) :: r) = 2
        rw [dcount, isDig_add (by omega)]; simp only []
        rw [dcount, isDig_add (by omega)]; simp only []; rw [hstop]
      · have hh : some (48 + n / 10) = some 48 := hh
        injection hh with hh; omega
    · have e : dig n = [48 + n / 100, 48 + n / 10 % 10, 48 + n % 10] := by unfold dig; rw [if_neg h1, if_neg h2]
      rw [e]
      refine rpart_of ?_ (by show ((0 * 10 + (48 + n / 100 - 48)) * 10 + (48 + n / 10 % 10 - 48)) * 10 + (48 + n % 10 - 48) = n; omega) (by simp) h (fun _ hh => ?_)
      · show dcount 3 ((48 + n / 100) :: (48 + n / 10 % 10) :: (48 + n % 10) :: r) = 3
        rw [dcount, isDig_add (by omega)]; simp only []
        rw [dcount, isDig_add (by omega)]; simp only []
        rw [dcount, isDig_add (by omega)]; simp only []; rw [hstop]
      · have hh : some (48 + n / 100) = some 48 := hh
        injection hh with hh; omega
theorem rparse_txt {v : Nat} (h : v < 4294967296) : rparse 3 (txt v) 0 = some v := by
  have one : ∀ {n : Nat}, n < 256 → ∀ (r : List Nat) (k a : Nat), rparse (k + 1) (dig n ++ 46 :: r) a = rparse k r (a * 256 + n) := fun {n} hn r k a => by
    rw [rparse, rpart_dig hn _ (.inr ⟨r, rfl⟩)]
    simp only []
    rw [decide_eq_true (by rw [List.getElem?_append_right (Nat.le_refl _), Nat.sub_self]; rfl)]
    simp only []
    rw [show (dig n ++ 46 :: r).drop ((dig n).length + 1) = r by rw [← List.drop_drop, List.drop_left]; rfl]
  unfold txt join4
  rw [one (Nat.mod_lt _ (by decide)), one (Nat.mod_lt _ (by decide)), one (Nat.mod_lt _ (by decide)), rparse]
  have := rpart_dig (n := v % 256) (Nat.mod_lt _ (by decide)) [] (.inl rfl)
  rw [List.append_nil] at this
  rw [this]
  simp only []
  simp only [Nat.zero_mul, Nat.zero_add, decide_true]
  rw [four_eq h]
theorem take_drop_at {r : List Nat} {m c : Nat} (h : r[m]? = some c) : r = r.take m ++ c :: r.drop (m + 1) := by
  obtain ⟨hm, rfl⟩ := List.getElem?_eq_some_iff.1 h
  rw [← List.drop_eq_getElem_cons hm, List.take_append_drop]
theorem rparse_step {k : Nat} {r : List Nat} {a v : Nat} (h : rparse (k + 1) r a = some v) : ∃ n r', n < 256 ∧ r = dig n ++ 46 :: r' ∧ rparse k r' (a * 256 + n) = some v := by
  rw [rparse] at h
  cases hq : rpart r with
  | none => rw [hq] at h; cases h
  | some x =>
    obtain ⟨n, m⟩ := x
    rw [hq] at h
    simp only [] at h
    obtain ⟨h1, h2, h3⟩ := rpart_some hq
    split at h
    · rename_i h4
      have := take_drop_at (of_decide_eq_true h4)
      rw [h3] at this
      exact ⟨n, _, h1, this, h⟩
    · cases h
theorem rparse_some {l : List Nat} {v : Nat} (h : rparse 3 l 0 = some v) : txt v = l ∧ v < 4294967296 := by
  obtain ⟨n0, r0, h0, rfl, g0⟩ := rparse_step h
  obtain ⟨n1, r1, h1, rfl, g1⟩ := rparse_step g0
  obtain ⟨n2, r2, h2, rfl, g2⟩ := rparse_step g1
  clear h g0 g1
  revert g2
  intro h
  rw [rparse] at h
  cases hq : rpart r2 with
  | none => rw [hq] at h; cases h
  | some x =>
    obtain ⟨n3, m⟩ := x
    rw [hq] at h
    simp only [] at h
    obtain ⟨h3, h5, h6⟩ := rpart_some hq
    split at h
    · rename_i h4
      have := of_decide_eq_true h4
      subst this
      rw [List.take_length] at h6
      subst h6
      injection h with h
      refine ⟨?_, by omega⟩
      unfold txt join4
      rw [show v / 16777216 % 256 = n0 by omega, show v / 65536 % 256 = n1 by omega, show v / 256 % 256 = n2 by omega, show v % 256 = n3 by omega]
    · cases h
theorem parse_eq (l : List Nat) : pParse l = rparse 3 l 0 := by
  cases h : rparse 3 l 0 with
  | some v =>
    obtain ⟨h1, h2⟩ := rparse_some h
    rw [← h1, pParse_txt h2]
  | none =>
    cases h2 : pParse l with
    | none => rfl
    | some v =>
      obtain ⟨h3, h4⟩ := pParse_some h2
      rw [← h3, rparse_txt h4] at h
      cases h
end Go.Proofs.YtooaeccmkgockaaGreatDoor.V
