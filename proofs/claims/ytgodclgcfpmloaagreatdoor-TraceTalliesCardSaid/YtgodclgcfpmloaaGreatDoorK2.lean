/-
  Texts of addresses, as lists of numbers: the program's reading and the document's answer alike. No condition.
  Numbers in decimal digits, texts cut at bytes, as lists of numbers. No condition.
  Texts of Ethernet addresses, as lists of numbers: the program's reading and the document's answer alike. No condition.
  Bytes as figures, halves of keys, steps and lines, as lists of numbers: what is written is read. No condition.
  Bytes as numbers, ones sums, packets' bodies as lists of numbers. No condition.
-/
import Derived.Test.YtgodclgcfpmloaaGreatDoorK1
namespace Go.Proofs.YtgodclgcfpmloaaGreatDoor.V

/-! ### Numbers in digits -/
def dig (n : Nat) : List Nat := if n < 10 then [48 + n] else if n < 100 then [48 + n / 10, 48 + n % 10] else [48 + n / 100, 48 + n / 10 % 10, 48 + n % 10]
theorem dig_byt {n : Nat} (h : n < 256) : Byt (dig n) := by
  unfold dig
  intro x hx
  split at hx
  · simp at hx; omega
  · split at hx
    · simp at hx; omega
    · simp at hx; omega
def join4 (a b c d : List Nat) : List Nat := a ++ 46 :: (b ++ 46 :: (c ++ 46 :: d))
def txt (a : Nat) : List Nat := join4 (dig (a / 16777216 % 256)) (dig (a / 65536 % 256)) (dig (a / 256 % 256)) (dig (a % 256))
theorem txt_byt (a : Nat) : Byt (txt a) := by
  unfold txt join4
  have h : ∀ n : Nat, Byt (dig (n % 256)) := fun n => dig_byt (Nat.mod_lt _ (by decide))
  exact (h _).append (.cons (by decide) ((h _).append (.cons (by decide) ((h _).append (.cons (by decide) (h _))))))
theorem dig_len (n : Nat) : (dig n).length ≤ 3 := by unfold dig; split; simp; split <;> simp
theorem txt_len (a : Nat) : (txt a).length ≤ 15 := by
  have h1 := dig_len (a / 16777216 % 256); have h2 := dig_len (a / 65536 % 256); have h3 := dig_len (a / 256 % 256); have h4 := dig_len (a % 256)
  unfold txt join4
  simp only [List.length_append, List.length_cons]
  omega

/-! ### The program's reading -/
/-! ### The document's answer -/
end Go.Proofs.YtgodclgcfpmloaaGreatDoor.V
namespace Go.Proofs.YtgodclgcfpmloaaGreatDoor.V

/-! ### Digits -/
def dgs (n : Nat) : List Nat := if n < 10 then [48 + n] else dgs (n / 10) ++ [48 + n % 10]
termination_by n
decreasing_by omega
theorem dgs_lt {n : Nat} (h : n < 10) : dgs n = [48 + n] := by rw [dgs, if_pos h]
theorem dgs_ge {n : Nat} (h : ¬ n < 10) : dgs n = dgs (n / 10) ++ [48 + n % 10] := by rw [dgs, if_neg h]
theorem dgs_ind {p : Nat → Prop} (h1 : ∀ n, n < 10 → p n) (h2 : ∀ n, ¬ n < 10 → p (n / 10) → p n) (n : Nat) : p n := by
  induction n using Nat.strongRecOn with
  | _ n ih =>
    by_cases h : n < 10
    · exact h1 n h
    · exact h2 n h (ih _ (by omega))
theorem dgs_is (n : Nat) : ∀ c, c ∈ dgs n → 48 ≤ c ∧ c ≤ 57 := by
  refine dgs_ind (p := fun n => ∀ c, c ∈ dgs n → 48 ≤ c ∧ c ≤ 57) (fun n h c hc => ?_) (fun n h ih c hc => ?_) n
  · rw [dgs_lt h] at hc; simp at hc; omega
  · rw [dgs_ge h] at hc
    rcases List.mem_append.1 hc with hc | hc
    · exact ih c hc
    · simp at hc; omega
theorem dgs_byt (n : Nat) : Byt (dgs n) := fun c hc => by have := dgs_is n c hc; omega
theorem dgs_len : ∀ (k n : Nat), n < 10 ^ (k + 1) → (dgs n).length ≤ k + 1
  | 0, n, h => by rw [dgs_lt (by simpa using h)]; simp
  | k + 1, n, h => by
    by_cases h1 : n < 10
    · rw [dgs_lt h1]; simp
    · rw [dgs_ge h1]
      have := dgs_len k (n / 10) (by rw [Nat.pow_succ] at h; omega)
      simp; omega

/-! ### Texts cut -/
def splB (p : Nat → Bool) : List Nat → List (List Nat)
  | [] => [[]]
  | c :: l => match p c, splB p l with
    | true, r => [] :: r
    | false, q :: r => (c :: q) :: r
    | false, [] => [[c]]
theorem splB_ne (p : Nat → Bool) : ∀ l, splB p l ≠ []
  | [] => by simp [splB]
  | c :: l => by
    rw [splB]
    cases p c with
    | true => simp
    | false => cases splB p l <;> simp
theorem splB_app {p : Nat → Bool} {x : List Nat} (hx : ∀ c, c ∈ x → p c = false) {c : Nat} (hc : p c = true) (r : List Nat) : splB p (x ++ c :: r) = x :: splB p r := by
  induction x with
  | nil => rw [List.nil_append, splB, hc]
  | cons d x ih =>
    rw [List.cons_append, splB, ih fun c hc => hx c (List.mem_cons_of_mem _ hc), hx d List.mem_cons_self]
theorem splB_len (p : Nat → Bool) : ∀ l : List Nat, (splB p l).length ≤ l.length + 1
  | [] => by simp [splB]
  | c :: l => by
    have := splB_len p l
    rw [splB]
    split
    · simp; omega
    · rename_i q r h1 h2; rw [h2] at this; simp at this ⊢; omega
    · simp
def eqC (c : Nat) : Nat → Bool := fun x => decide (x = c)
abbrev spl (c : Nat) (l : List Nat) : List (List Nat) := splB (eqC c) l
theorem eqC_self (c : Nat) : eqC c c = true := decide_eq_true rfl

end Go.Proofs.YtgodclgcfpmloaaGreatDoor.V
namespace Go.Proofs.YtgodclgcfpmloaaGreatDoor.V

def hx (k : Nat) : Nat := if k < 10 then 48 + k else 87 + k
def unhex (c : Nat) : Option Nat := if 48 ≤ c ∧ c ≤ 57 then some (c - 48) else if 97 ≤ c ∧ c ≤ 102 then some (c - 87) else none
theorem hx_lt {k : Nat} (h : k < 16) : hx k < 128 ∧ hx k ≠ 58 := by unfold hx; split <;> omega
def mtx (x : Nat) : List Nat := [hx (x / 16), hx (x % 16)]
def joinC : List (List Nat) → List Nat
  | [] => []
  | [x] => x
  | x :: y :: r => x ++ 58 :: joinC (y :: r)
def mtxt (m : List Nat) : List Nat := joinC (m.map mtx)
structure MacOk (m : List Nat) : Prop where
  len : m.length = 6
  byt : Byt m
theorem MacOk.six {m : List Nat} (h : MacOk m) : ∃ a b c d e f, m = [a, b, c, d, e, f] ∧ a < 256 ∧ b < 256 ∧ c < 256 ∧ d < 256 ∧ e < 256 ∧ f < 256 := by
  obtain ⟨h1, h2⟩ := h
  match m, h1 with
  | [a, b, c, d, e, f], _ => exact ⟨a, b, c, d, e, f, rfl, h2 _ (by simp), h2 _ (by simp), h2 _ (by simp), h2 _ (by simp), h2 _ (by simp), h2 _ (by simp)⟩
theorem mtx_byt {x : Nat} (h : x < 256) : Byt (mtx x) := .cons (by have := hx_lt (show x / 16 < 16 by omega); omega) (.cons (by have := hx_lt (show x % 16 < 16 by omega); omega) .nil)
theorem mtxt_byt {m : List Nat} (h : MacOk m) : Byt (mtxt m) := by
  obtain ⟨a, b, c, d, e, f, rfl, ha, hb, hc, hd, he, hf⟩ := h.six
  exact (mtx_byt ha).append (.cons (by decide) ((mtx_byt hb).append (.cons (by decide) ((mtx_byt hc).append (.cons (by decide) ((mtx_byt hd).append (.cons (by decide) ((mtx_byt he).append (.cons (by decide) (mtx_byt hf))))))))))

/-! ### The program's reading -/
/-! ### The document's answer -/
def uh (c : Nat) : Nat := (unhex c).getD 0
def mo (l : List Nat) (i j : Nat) : Nat := if i ≤ 3 * j then 0 else if i = 3 * j + 1 then uh (l.getD (3 * j) 0) else uh (l.getD (3 * j) 0) * 16 + uh (l.getD (3 * j + 1) 0)
end Go.Proofs.YtgodclgcfpmloaaGreatDoor.V
namespace Go.Proofs.YtgodclgcfpmloaaGreatDoor.V

/-! ### Numbers -/
theorem byt_of {l : List Nat} (h : l.all (fun c => decide (c < 256)) = true) : Byt l := fun c hc => of_decide_eq_true (List.all_eq_true.1 h c hc)

/-! ### Figures -/
/-! ### Halves of a key -/
/-! ### Steps -/
structure Stp where
  kind : Int
  nic : Int
  num : Int
  frame : List Nat
  lo : Nat
  hi : Nat
structure Stp.ok (a : Stp) : Prop where
  kind : -9223372036854775808 ≤ a.kind ∧ a.kind ≤ 9223372036854775807
  nic : -9223372036854775808 ≤ a.nic ∧ a.nic ≤ 9223372036854775807
  num : -9223372036854775808 ≤ a.num ∧ a.num ≤ 9223372036854775807
  frame : Byt a.frame
  lo : a.lo < 18446744073709551616
  hi : a.hi < 18446744073709551616
def MayS (a : Stp) : Prop := (1 ≤ a.kind ∧ a.kind ≤ 5) ∧ (0 ≤ a.nic ∧ a.nic ≤ 1) ∧ (0 ≤ a.num ∧ a.num ≤ 4095) ∧ a.frame.length ≤ 1600 ∧
  (a.kind ≠ 1 → a.frame.length = 0) ∧ (3 < a.kind → a.nic = 0) ∧ (a.kind ≠ 5 → a.lo = 0 ∧ a.hi = 0) ∧ (a.kind = 1 ∨ a.kind = 5 → a.num = 0)
instance (a : Stp) : Decidable (MayS a) := by unfold MayS; infer_instance
def wd (s : List Nat) (i : Nat) : List Nat := (spl 32 s).getD i []

/-! ### What a line tells of a step: by the program -/
/-! ### Both readings come to the same -/
end Go.Proofs.YtgodclgcfpmloaaGreatDoor.V
namespace Go.Proofs.YtgodclgcfpmloaaGreatDoor.V

/-! ### Bytes -/
def bnum (l : List Nat) : Nat := l.foldl (fun n x => (n * 256 + x) % 4294967296) 0
theorem bnum_take {l : List Nat} {k x : Nat} (h : l[k]? = some x) : bnum (l.take (k + 1)) = (bnum (l.take k) * 256 + x) % 4294967296 := by
  unfold bnum
  rw [List.take_add_one, h]
  show List.foldl _ _ (l.take k ++ [x]) = _
  rw [List.foldl_append]; rfl
theorem bnum_lt : ∀ l : List Nat, bnum l < 4294967296 := by
  have key : ∀ (l : List Nat) (n : Nat), n < 4294967296 → l.foldl (fun n x => (n * 256 + x) % 4294967296) n < 4294967296 := by
    intro l
    induction l with
    | nil => exact fun n h => h
    | cons x l ih => exact fun n _ => ih _ (Nat.mod_lt _ (by decide))
  exact fun l => key l 0 (by decide)
def getW (k : Nat) (l : List Nat) (at_ : Nat) : Nat := match decide (at_ + k ≤ l.length) with
  | true => bnum ((l.drop at_).take k)
  | false => 0
def get16 (l : List Nat) (at_ : Nat) : Nat := getW 2 l at_ % 65536
def get32 (l : List Nat) (at_ : Nat) : Nat := getW 4 l at_
theorem get16_lt (l : List Nat) (at_ : Nat) : get16 l at_ < 65536 := Nat.mod_lt _ (by decide)
theorem get32_lt (l : List Nat) (at_ : Nat) : get32 l at_ < 4294967296 := by
  unfold get32 getW
  split
  · exact bnum_lt _
  · decide
theorem get16_two {l : List Nat} {at_ a b : Nat} (ha : l[at_]? = some a) (hb : l[at_ + 1]? = some b) (h1 : a < 256) (h2 : b < 256) : get16 l at_ = a * 256 + b := by
  have e : (l.drop at_).take 2 = [a, b] := by
    rw [List.take_add_one, List.take_add_one, List.take_zero, List.getElem?_drop, List.getElem?_drop, Nat.add_zero, ha, hb]; rfl
  have hl := (List.getElem?_eq_some_iff.1 hb).1
  unfold get16 getW
  rw [decide_eq_true (by omega), e]
  show ((0 * 256 + a) % 4294967296 * 256 + b) % 4294967296 % 65536 = _
  omega
def cutP (l : List Nat) (at_ n : Nat) : List Nat := match decide (at_ + n ≤ l.length) with
  | true => (l.drop at_).take n
  | false => []
theorem cutP_byt {l : List Nat} (h : Byt l) (at_ n : Nat) : Byt (cutP l at_ n) := by
  unfold cutP
  split
  · exact fun c hc => h c (List.mem_of_mem_drop (List.mem_of_mem_take hc))
  · exact .nil
theorem cutP_len (l : List Nat) (at_ n : Nat) : (cutP l at_ n).length ≤ l.length := by
  unfold cutP
  split
  · rw [List.length_take, List.length_drop]; omega
  · exact Nat.zero_le _

/-! ### Sums -/
def smB : Bool → List Nat → Nat
  | _, [] => 0
  | true, x :: r => x * 256 + smB false r
  | false, x :: r => x + smB true r
def parB (b : Bool) : List Nat → Bool
  | [] => b
  | _ :: r => parB (!b) r
theorem parB_true : ∀ (l : List Nat) (b : Bool), parB b l = (if l.length % 2 = 0 then b else !b)
  | [], b => rfl
  | x :: l, b => by
    rw [parB, parB_true l, List.length_cons]
    by_cases h : l.length % 2 = 0
    · rw [if_pos h, if_neg (by omega)]
    · rw [if_neg h, if_pos (by omega)]; cases b <;> rfl
theorem smB_app (a : List Nat) : ∀ (b : Bool) (r : List Nat), smB b (a ++ r) = smB b a + smB (parB b a) r := by
  induction a with
  | nil => intro b r; cases b <;> simp [smB, parB]
  | cons x a ih => intro b r; cases b <;> simp only [List.cons_append, smB, parB, ih, Bool.not_true, Bool.not_false] <;> omega
theorem smB_take {l : List Nat} {k x : Nat} (h : l[k]? = some x) : smB true (l.take (k + 1)) = smB true (l.take k) + (if k % 2 = 0 then x * 256 else x) := by
  have hk := (List.getElem?_eq_some_iff.1 h).1
  rw [List.take_add_one, h]
  show smB true (l.take k ++ [x]) = _
  rw [smB_app, parB_true, List.length_take, Nat.min_eq_left (Nat.le_of_lt hk)]
  by_cases hp : k % 2 = 0
  · rw [if_pos hp, if_pos hp]; simp [smB]
  · rw [if_neg hp, if_neg hp]; simp [smB]
theorem smB_le {l : List Nat} (h : Byt l) : ∀ b, smB b l ≤ l.length * 65280 := by
  induction l with
  | nil => intro b; cases b <;> simp [smB]
  | cons x l ih =>
    intro b
    have hx := h.head
    have h1 := ih h.tail true
    have h2 := ih h.tail false
    cases b <;> simp only [smB, List.length_cons] <;> omega
def foldN : Nat → Nat
  | 0 => 0
  | n + 1 => n % 65535 + 1
theorem foldN_step {n : Nat} (h : 65535 < n) : foldN (n / 65536 + n % 65536) = foldN n := by
  obtain ⟨a, ha⟩ : ∃ a, n / 65536 + n % 65536 = a + 1 := ⟨n / 65536 + n % 65536 - 1, by omega⟩
  obtain ⟨b, hb⟩ : ∃ b, n = b + 1 := ⟨n - 1, by omega⟩
  rw [ha]
  subst hb
  show a % 65535 + 1 = b % 65535 + 1
  omega
theorem foldN_small {n : Nat} (h : n ≤ 65535) : foldN n = n := by
  cases n with
  | zero => rfl
  | succ n => show n % 65535 + 1 = _; omega
theorem foldN_lt (n : Nat) : foldN n < 65536 := by
  cases n with
  | zero => decide
  | succ n => show n % 65535 + 1 < _; omega
theorem foldN_add (a x : Nat) : foldN (foldN a + x) = foldN (a + x) := by
  cases a with
  | zero => rfl
  | succ a =>
    show foldN (a % 65535 + 1 + x) = foldN (a + 1 + x)
    rw [show a % 65535 + 1 + x = (a % 65535 + x) + 1 by omega, show a + 1 + x = (a + x) + 1 by omega]
    show (a % 65535 + x) % 65535 + 1 = (a + x) % 65535 + 1
    omega
def onesL (l : List Nat) : Nat := foldN (smB true l)
theorem onesL_lt (l : List Nat) : onesL l < 65536 := foldN_lt _

/-! ### Heads -/
def b4 (n : Nat) : List Nat := [n / 16777216 % 256, n / 65536 % 256, n / 256 % 256, n % 256]
def b2 (n : Nat) : List Nat := [n / 256 % 256, n % 256]
theorem b4_byt (n : Nat) : Byt (b4 n) := by
  intro c hc
  simp only [b4, List.mem_cons, List.not_mem_nil, or_false] at hc
  omega
theorem b2_byt (n : Nat) : Byt (b2 n) := by
  intro c hc
  simp only [b2, List.mem_cons, List.not_mem_nil, or_false] at hc
  omega
theorem bytA {a b : List Nat} (h : Byt a) (k : Byt b) : Byt (a ++ b) := fun c hc => by
  rcases List.mem_append.1 hc with hc | hc
  · exact h c hc
  · exact k c hc
def headL (src dst proto n : Nat) : List Nat := (b4 src ++ b4 dst) ++ [0, proto] ++ b2 n
theorem headL_byt {src dst proto n : Nat} (h : proto < 256) : Byt (headL src dst proto n) :=
  bytA (bytA (bytA (b4_byt _) (b4_byt _)) (.cons (by decide) (.cons h .nil))) (b2_byt _)
theorem headL_len (src dst proto n : Nat) : (headL src dst proto n).length = 12 := rfl

/-! ### Bodies -/
structure Dgm where
  src : Nat
  dst : Nat
  bare : Bool
  data : List Nat
def dgm0 : Dgm := ⟨0, 0, false, []⟩
structure Seg where
  src : Nat
  dst : Nat
  seq : Nat
  ack : Nat
  res : Nat
  flags : Nat
  window : Nat
  urgent : Nat
  opts : List Nat
  data : List Nat
def seg0 : Seg := ⟨0, 0, 0, 0, 0, 0, 0, 0, [], []⟩
structure Icm where
  type : Nat
  code : Nat
  rest : Nat
  data : List Nat
def icm0 : Icm := ⟨0, 0, 0, []⟩

def udpBad (src dst : Nat) (b : List Nat) : Bool := !decide (get16 b 6 = 0) && !decide (onesL (headL src dst 17 (get16 b 4) ++ b.take (get16 b 4)) = 65535)
def parseU (src dst : Nat) (b : List Nat) : Dgm × Int :=
  match decide (b.length < 8) with
  | true => (dgm0, 4)
  | false => match decide (get16 b 4 < 8) with
    | true => (dgm0, 3)
    | false => match decide (b.length < get16 b 4) with
      | true => (dgm0, 4)
      | false => match udpBad src dst b with
        | true => (dgm0, 5)
        | false => (⟨get16 (b.take (get16 b 4)) 0, get16 (b.take (get16 b 4)) 2, decide (get16 b 6 = 0), cutP (b.take (get16 b 4)) 8 (get16 b 4 - 8)⟩, 0)
def offT (b : List Nat) : Nat := b.getD 12 0 / 16 * 4
def parseT (src dst : Nat) (b : List Nat) : Seg × Int :=
  match decide (b.length < 20) with
  | true => (seg0, 4)
  | false => match decide (offT b < 20) || decide (65535 < b.length) with
    | true => (seg0, 3)
    | false => match decide (b.length < offT b) with
      | true => (seg0, 4)
      | false => match decide (onesL (headL src dst 6 b.length ++ b) = 65535) with
        | false => (seg0, 5)
        | true => (⟨get16 b 0, get16 b 2, get32 b 4, get32 b 8, b.getD 12 0 % 16, b.getD 13 0, get16 b 14, get16 b 18, cutP b 20 (offT b - 20), cutP b (offT b) (b.length - offT b)⟩, 0)
def parseI (b : List Nat) : Icm × Int :=
  match decide (b.length < 8) with
  | true => (icm0, 4)
  | false => match decide (onesL b = 65535) with
    | false => (icm0, 5)
    | true => (⟨b.getD 0 0, b.getD 1 0, get32 b 4, cutP b 8 (b.length - 8)⟩, 0)
end Go.Proofs.YtgodclgcfpmloaaGreatDoor.V
