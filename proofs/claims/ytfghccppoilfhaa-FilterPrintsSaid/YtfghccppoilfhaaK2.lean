/-
  Texts of addresses, as lists of numbers: the program's reading and the document's answer alike. No condition.
  Texts of Ethernet addresses, as lists of numbers: the program's reading and the document's answer alike. No condition.
  Bytes as numbers, ones sums, packets' bodies as lists of numbers. No condition.
-/
import Derived.Test.YtfghccppoilfhaaK1
namespace Go.Proofs.Ytfghccppoilfhaa.V

/-! ### Numbers in digits -/
def dig (n : Nat) : List Nat := if n < 10 then [48 + n] else if n < 100 then [48 + n / 10, 48 + n % 10] else [48 + n / 100, 48 + n / 10 % 10, 48 + n % 10]
theorem dig_byt {n : Nat} (h : n < 256) : Byt (dig n) := by
  unfold dig
  intro x hx
  split at hx
  · simp at hx; omega
  · split at hx
    · simp at hx; omega
    · simp at hx; omega
def join4 (a b c d : List Nat) : List Nat := a ++ 46 :: (b ++ 46 :: (c ++ 46 :: d))
def txt (a : Nat) : List Nat := join4 (dig (a / 16777216 % 256)) (dig (a / 65536 % 256)) (dig (a / 256 % 256)) (dig (a % 256))
theorem txt_byt (a : Nat) : Byt (txt a) := by
  unfold txt join4
  have h : ∀ n : Nat, Byt (dig (n % 256)) := fun n => dig_byt (Nat.mod_lt _ (by decide))
  exact (h _).append (.cons (by decide) ((h _).append (.cons (by decide) ((h _).append (.cons (by decide) (h _))))))
theorem dig_len (n : Nat) : (dig n).length ≤ 3 := by unfold dig; split; simp; split <;> simp
theorem txt_len (a : Nat) : (txt a).length ≤ 15 := by
  have h1 := dig_len (a / 16777216 % 256); have h2 := dig_len (a / 65536 % 256); have h3 := dig_len (a / 256 % 256); have h4 := dig_len (a % 256)
  unfold txt join4
  simp only [List.length_append, List.length_cons]
  omega

/-! ### The program's reading -/
structure PS where
  a : Nat
  n : Nat
  p : Nat
  so : Bool
def isDig (c : Nat) : Bool := decide (48 ≤ c) && decide (c ≤ 57)
def pstep (s : PS) (c : Nat) : Option PS := match isDig c with
  | true => match decide (255 < s.n * 10 + (c - 48)) with
    | true => none
    | false => some ⟨s.a, s.n * 10 + (c - 48), s.p, true⟩
  | false => match decide (c = 46) && s.so && decide (s.p < 3) with
    | true => some ⟨s.a * 256 + s.n, 0, s.p + 1, false⟩
    | false => none
def pfold : List Nat → PS → Option PS
  | [], s => some s
  | c :: l, s => match pstep s c with
    | some s' => pfold l s'
    | none => none
structure PInv (s : PS) : Prop where
  n : s.n ≤ 255
  a : s.a < 256 ^ s.p
  p : s.p ≤ 3
theorem PInv.start : PInv ⟨0, 0, 0, false⟩ := ⟨by decide, by decide, by decide⟩
theorem PInv.step {s s' : PS} {c : Nat} (h : PInv s) (hs : pstep s c = some s') : PInv s' := by
  obtain ⟨h1, h2, h3⟩ := h
  unfold pstep at hs
  split at hs
  · split at hs
    · cases hs
    · rename_i h4
      have := of_decide_eq_false h4
      injection hs with hs; subst hs
      exact ⟨by show s.n * 10 + _ ≤ _; omega, h2, h3⟩
  · split at hs
    · rename_i h4
      simp only [Bool.and_eq_true, decide_eq_true_eq] at h4
      injection hs with hs; subst hs
      refine ⟨Nat.zero_le _, ?_, h4.2⟩
      show s.a * 256 + s.n < 256 ^ (s.p + 1)
      rw [Nat.pow_succ]
      omega
    · cases hs
theorem PInv.a24 {s : PS} (h : PInv s) : s.a < 16777216 := by
  have h1 := h.a; have h2 := h.p
  have : s.p = 0 ∨ s.p = 1 ∨ s.p = 2 ∨ s.p = 3 := by omega
  rcases this with h | h | h | h <;> rw [h] at h1 <;> omega
theorem pfold_app : ∀ (a b : List Nat) (s : PS), pfold (a ++ b) s = (pfold a s).bind (pfold b)
  | [], _, _ => rfl
  | c :: a, b, s => by
    rw [List.cons_append, pfold, pfold]
    cases pstep s c with
    | none => rfl
    | some s' => exact pfold_app a b s'

def pParse (l : List Nat) : Option Nat := match pfold l ⟨0, 0, 0, false⟩ with
  | none => none
  | some s => match decide (txt (s.a * 256 + s.n) = l) with
    | true => some (s.a * 256 + s.n)
    | false => none

theorem isDig_add {k : Nat} (h : k < 10) : isDig (48 + k) = true := by unfold isDig; simp; omega
theorem pstep_dig {s : PS} {k : Nat} (h : k < 10) (hn : s.n * 10 + k ≤ 255) : pstep s (48 + k) = some ⟨s.a, s.n * 10 + k, s.p, true⟩ := by
  unfold pstep
  rw [isDig_add h, show 48 + k - 48 = k by omega, decide_eq_false (by omega : ¬ 255 < s.n * 10 + k)]
theorem pfold_dig {n : Nat} (h : n < 256) (a p : Nat) (so : Bool) : pfold (dig n) ⟨a, 0, p, so⟩ = some ⟨a, n, p, true⟩ := by
  unfold dig
  split
  · simp only [pfold]
    rw [pstep_dig (by omega) (by show 0 * 10 + n ≤ 255; omega)]
    show some (PS.mk a (0 * 10 + n) p true) = _
    rw [Nat.zero_mul, Nat.zero_add]
  · split
    · simp only [pfold]
      rw [pstep_dig (by omega) (by show 0 * 10 + n / 10 ≤ 255; omega)]
      simp only []
      rw [pstep_dig (by omega) (by show (0 * 10 + n / 10) * 10 + n % 10 ≤ 255; omega)]
      simp only []
      congr 2
      omega
    · simp only [pfold]
      rw [pstep_dig (by omega) (by show 0 * 10 + n / 100 ≤ 255; omega)]
      simp only []
      rw [pstep_dig (by omega) (by show (0 * 10 + n / 100) * 10 + n / 10 % 10 ≤ 255; omega)]
      simp only []
      rw [pstep_dig (by omega) (by show ((0 * 10 + n / 100) * 10 + n / 10 % 10) * 10 + n % 10 ≤ 255; omega)]
      simp only []
      congr 2
      omega
theorem pstep_dot {a n p : Nat} (hp : p < 3) : pstep ⟨a, n, p, true⟩ 46 = some ⟨a * 256 + n, 0, p + 1, false⟩ := by
  unfold pstep
  rw [show isDig 46 = false from rfl]
  simp only [Bool.and_true]
  rw [decide_eq_true hp]
  rfl
theorem pfold_part {n : Nat} (h : n < 256) (a p : Nat) (hp : p < 3) (r : List Nat) : pfold (dig n ++ 46 :: r) ⟨a, 0, p, false⟩ = pfold r ⟨a * 256 + n, 0, p + 1, false⟩ := by
  rw [pfold_app, pfold_dig h]
  show pfold (46 :: r) _ = _
  rw [pfold, pstep_dot hp]
theorem pfold_join {b0 b1 b2 b3 : Nat} (h0 : b0 < 256) (h1 : b1 < 256) (h2 : b2 < 256) (h3 : b3 < 256) :
    pfold (join4 (dig b0) (dig b1) (dig b2) (dig b3)) ⟨0, 0, 0, false⟩ = some ⟨(b0 * 256 + b1) * 256 + b2, b3, 3, true⟩ := by
  unfold join4
  rw [pfold_part h0 _ _ (by decide), pfold_part h1 _ _ (by decide), pfold_part h2 _ _ (by decide), pfold_dig h3]
  simp only [Nat.zero_mul, Nat.zero_add]
theorem four_eq {v : Nat} (h : v < 4294967296) : ((v / 16777216 % 256 * 256 + v / 65536 % 256) * 256 + v / 256 % 256) * 256 + v % 256 = v := by omega
theorem pParse_txt {v : Nat} (h : v < 4294967296) : pParse (txt v) = some v := by
  unfold pParse
  rw [show pfold (txt v) ⟨0, 0, 0, false⟩ = _ from pfold_join (Nat.mod_lt _ (by decide)) (Nat.mod_lt _ (by decide)) (Nat.mod_lt _ (by decide)) (Nat.mod_lt _ (by decide))]
  simp only []
  rw [four_eq h, decide_eq_true rfl]
/-! ### The document's answer -/
theorem take_drop_at {r : List Nat} {m c : Nat} (h : r[m]? = some c) : r = r.take m ++ c :: r.drop (m + 1) := by
  obtain ⟨hm, rfl⟩ := List.getElem?_eq_some_iff.1 h
  rw [← List.drop_eq_getElem_cons hm, List.take_append_drop]
end Go.Proofs.Ytfghccppoilfhaa.V
namespace Go.Proofs.Ytfghccppoilfhaa.V

def hx (k : Nat) : Nat := if k < 10 then 48 + k else 87 + k
def unhex (c : Nat) : Option Nat := if 48 ≤ c ∧ c ≤ 57 then some (c - 48) else if 97 ≤ c ∧ c ≤ 102 then some (c - 87) else none
/-! ### The program's reading -/
/-! ### The document's answer -/
def uh (c : Nat) : Nat := (unhex c).getD 0
def mo (l : List Nat) (i j : Nat) : Nat := if i ≤ 3 * j then 0 else if i = 3 * j + 1 then uh (l.getD (3 * j) 0) else uh (l.getD (3 * j) 0) * 16 + uh (l.getD (3 * j + 1) 0)
end Go.Proofs.Ytfghccppoilfhaa.V
namespace Go.Proofs.Ytfghccppoilfhaa.V

/-! ### Bytes -/
/-! ### Sums -/
/-! ### Heads -/
def b2 (n : Nat) : List Nat := [n / 256 % 256, n % 256]
/-! ### Bodies -/
end Go.Proofs.Ytfghccppoilfhaa.V
