/-
  Texts of Ethernet addresses, as lists of numbers: the program's reading and the document's answer alike. No condition.
  Bytes as numbers, ones sums, packets' bodies as lists of numbers. No condition.
  Numbers in digits, by value: the program's and the document's. Conditions: numbers below 256.
  The text of an address, by value: the program's and the document's. Conditions: an address is a u32; strings.Join answers the row joined.
-/
import Derived.Test.YtfepckbhnghpeaaK1
import Derived.Test.YtfepckbhnghpeaaK19
namespace Go.Proofs.Ytfepckbhnghpeaa.V

def hx (k : Nat) : Nat := if k < 10 then 48 + k else 87 + k
def unhex (c : Nat) : Option Nat := if 48 ≤ c ∧ c ≤ 57 then some (c - 48) else if 97 ≤ c ∧ c ≤ 102 then some (c - 87) else none
/-! ### The program's reading -/
/-! ### The document's answer -/
def uh (c : Nat) : Nat := (unhex c).getD 0
def mo (l : List Nat) (i j : Nat) : Nat := if i ≤ 3 * j then 0 else if i = 3 * j + 1 then uh (l.getD (3 * j) 0) else uh (l.getD (3 * j) 0) * 16 + uh (l.getD (3 * j + 1) 0)
end Go.Proofs.Ytfepckbhnghpeaa.V
namespace Go.Proofs.Ytfepckbhnghpeaa.V

/-! ### Bytes -/
def bnum (l : List Nat) : Nat := l.foldl (fun n x => (n * 256 + x) % 4294967296) 0
theorem bnum_take {l : List Nat} {k x : Nat} (h : l[k]? = some x) : bnum (l.take (k + 1)) = (bnum (l.take k) * 256 + x) % 4294967296 := by
  unfold bnum
  rw [List.take_add_one, h]
  show List.foldl _ _ (l.take k ++ [x]) = _
  rw [List.foldl_append]; rfl
theorem bnum_lt : ∀ l : List Nat, bnum l < 4294967296 := by
  have key : ∀ (l : List Nat) (n : Nat), n < 4294967296 → l.foldl (fun n x => (n * 256 + x) % 4294967296) n < 4294967296 := by
    intro l
    induction l with
    | nil => exact fun n h => h
    | cons x l ih => exact fun n _ => ih _ (Nat.mod_lt _ (by decide))
  exact fun l => key l 0 (by decide)
def getW (k : Nat) (l : List Nat) (at_ : Nat) : Nat := match decide (at_ + k ≤ l.length) with
  | true => bnum ((l.drop at_).take k)
  | false => 0
def get16 (l : List Nat) (at_ : Nat) : Nat := getW 2 l at_ % 65536
theorem get16_lt (l : List Nat) (at_ : Nat) : get16 l at_ < 65536 := Nat.mod_lt _ (by decide)
theorem get16_two {l : List Nat} {at_ a b : Nat} (ha : l[at_]? = some a) (hb : l[at_ + 1]? = some b) (h1 : a < 256) (h2 : b < 256) : get16 l at_ = a * 256 + b := by
  have e : (l.drop at_).take 2 = [a, b] := by
    rw [List.take_add_one, List.take_add_one, List.take_zero, List.getElem?_drop, List.getElem?_drop, Nat.add_zero, ha, hb]; rfl
  have hl := (List.getElem?_eq_some_iff.1 hb).1
  unfold get16 getW
  rw [decide_eq_true (by omega), e]
  show ((0 * 256 + a) % 4294967296 * 256 + b) % 4294967296 % 65536 = _
  omega
def cutP (l : List Nat) (at_ n : Nat) : List Nat := match decide (at_ + n ≤ l.length) with
  | true => (l.drop at_).take n
  | false => []
/-! ### Sums -/
def smB : Bool → List Nat → Nat
  | _, [] => 0
  | true, x :: r => x * 256 + smB false r
  | false, x :: r => x + smB true r
def parB (b : Bool) : List Nat → Bool
  | [] => b
  | _ :: r => parB (!b) r
theorem parB_true : ∀ (l : List Nat) (b : Bool), parB b l = (if l.length % 2 = 0 then b else !b)
  | [], b => rfl
  | x :: l, b => by
    rw [parB, parB_true l, List.length_cons]
    by_cases h : l.length % 2 = 0
    · rw [if_pos h, if_neg (by omega)]
    · rw [if_neg h, if_pos (by omega)]; cases b <;> rfl
theorem smB_app (a : List Nat) : ∀ (b : Bool) (r : List Nat), smB b (a ++ r) = smB b a + smB (parB b a) r := by
  induction a with
  | nil => intro b r; cases b <;> simp [smB, parB]
  | cons x a ih => intro b r; cases b <;> simp only [List.cons_append, smB, parB, ih, Bool.not_true, Bool.not_false] <;> omega
theorem smB_take {l : List Nat} {k x : Nat} (h : l[k]? = some x) : smB true (l.take (k + 1)) = smB true (l.take k) + (if k % 2 = 0 then x * 256 else x) := by
  have hk := (List.getElem?_eq_some_iff.1 h).1
  rw [List.take_add_one, h]
  show smB true (l.take k ++ [x]) = _
  rw [smB_app, parB_true, List.length_take, Nat.min_eq_left (Nat.le_of_lt hk)]
  by_cases hp : k % 2 = 0
  · rw [if_pos hp, if_pos hp]; simp [smB]
  · rw [if_neg hp, if_neg hp]; simp [smB]
theorem smB_le {l : List Nat} (h : Byt l) : ∀ b, smB b l ≤ l.length * 65280 := by
  induction l with
  | nil => intro b; cases b <;> simp [smB]
  | cons x l ih =>
    intro b
    have hx := h.head
    have h1 := ih h.tail true
    have h2 := ih h.tail false
    cases b <;> simp only [smB, List.length_cons] <;> omega
def foldN : Nat → Nat
  | 0 => 0
  | n + 1 => n % 65535 + 1
theorem foldN_step {n : Nat} (h : 65535 < n) : foldN (n / 65536 + n % 65536) = foldN n := by
  obtain ⟨a, ha⟩ : ∃ a, n / 65536 + n % 65536 = a + 1 := ⟨n / 65536 + n % 65536 - 1, by omega⟩
  obtain ⟨b, hb⟩ : ∃ b, n = b + 1 := ⟨n - 1, by omega⟩
  rw [ha]
  subst hb
  show a % 65535 + 1 = b % 65535 + 1
  omega
theorem foldN_small {n : Nat} (h : n ≤ 65535) : foldN n = n := by
  cases n with
  | zero => rfl
  | succ n => show n % 65535 + 1 = _; omega
theorem foldN_lt (n : Nat) : foldN n < 65536 := by
  cases n with
  | zero => decide
  | succ n => show n % 65535 + 1 < _; omega
theorem foldN_add (a x : Nat) : foldN (foldN a + x) = foldN (a + x) := by
  cases a with
  | zero => rfl
  | succ a =>
    show foldN (a % 65535 + 1 + x) = foldN (a + 1 + x)
    rw [show a % 65535 + 1 + x = (a % 65535 + x) + 1 by omega, show a + 1 + x = (a + x) + 1 by omega]
    show (a % 65535 + x) % 65535 + 1 = (a + x) % 65535 + 1
    omega
def onesL (l : List Nat) : Nat := foldN (smB true l)
theorem onesL_lt (l : List Nat) : onesL l < 65536 := foldN_lt _

/-! ### Heads -/
def b4 (n : Nat) : List Nat := [n / 16777216 % 256, n / 65536 % 256, n / 256 % 256, n % 256]
def b2 (n : Nat) : List Nat := [n / 256 % 256, n % 256]
theorem b4_byt (n : Nat) : Byt (b4 n) := by
  intro c hc
  simp only [b4, List.mem_cons, List.not_mem_nil, or_false] at hc
  omega
theorem b2_byt (n : Nat) : Byt (b2 n) := by
  intro c hc
  simp only [b2, List.mem_cons, List.not_mem_nil, or_false] at hc
  omega
theorem bytA {a b : List Nat} (h : Byt a) (k : Byt b) : Byt (a ++ b) := fun c hc => by
  rcases List.mem_append.1 hc with hc | hc
  · exact h c hc
  · exact k c hc
/-! ### Bodies -/
end Go.Proofs.Ytfepckbhnghpeaa.V
namespace Go.Proofs.Ytfepckbhnghpeaa.V
open Go.RowKit
attribute [local irreducible] Fn FnN OpVC

abbrev u32D (n : Int) : D := .v (.int .u32 n)
abbrev u8D (n : Int) : D := .v (.int .u8 n)

theorem u32_small {n : Int} (h : 0 ≤ n ∧ n < 4294967296) : IntKind.u32.wrap n = n := by rw [u32_wrap]; omega
theorem u8_wrap' (n : Int) : IntKind.u8.wrap n = n % 256 := by rw [IntKind.wrap]; rfl
theorem u8_small {n : Int} (h : 0 ≤ n ∧ n < 256) : IntKind.u8.wrap n = n := by rw [u8_wrap']; omega

end Go.Proofs.Ytfepckbhnghpeaa.V
namespace Go.Proofs.Ytfepckbhnghpeaa.V
open Go.RowKit
attribute [local irreducible] Fn FnN OpVC

theorem shr_at (x k : Nat) : (x : Int).fdiv (2 ^ k) = ((x / 2 ^ k : Nat) : Int) := by
  rw [Int.fdiv_eq_ediv_of_nonneg _ (Int.le_of_lt (Int.pow_pos (by decide)))]
  simp

end Go.Proofs.Ytfepckbhnghpeaa.V
