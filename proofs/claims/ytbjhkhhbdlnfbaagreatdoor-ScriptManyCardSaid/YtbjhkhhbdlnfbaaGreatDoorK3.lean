/-
  Texts of addresses, as lists of numbers: the program's reading and the document's answer alike. No condition.
  Numbers in decimal digits, texts cut at bytes, as lists of numbers. No condition.
  Texts of Ethernet addresses, as lists of numbers: the program's reading and the document's answer alike. No condition.
  Bytes as figures, halves of keys, steps and lines, as lists of numbers: what is written is read. No condition.
  Steps as a text, a text as steps: what was written is read. No condition.
  A text of remarks and of ticks, how it reads: the plain law of ScriptMany. No condition.
-/
import Derived.Test.YtbjhkhhbdlnfbaaGreatDoorK2
namespace Go.Proofs.YtbjhkhhbdlnfbaaGreatDoor.V

/-! ### Numbers in digits -/
def dig (n : Nat) : List Nat := if n < 10 then [48 + n] else if n < 100 then [48 + n / 10, 48 + n % 10] else [48 + n / 100, 48 + n / 10 % 10, 48 + n % 10]
/-! ### The program's reading -/
def isDig (c : Nat) : Bool := decide (48 ≤ c) && decide (c ≤ 57)
theorem isDig_add {k : Nat} (h : k < 10) : isDig (48 + k) = true := by unfold isDig; simp; omega
/-! ### The document's answer -/
end Go.Proofs.YtbjhkhhbdlnfbaaGreatDoor.V
namespace Go.Proofs.YtbjhkhhbdlnfbaaGreatDoor.V

/-! ### Digits -/
def dgs (n : Nat) : List Nat := if n < 10 then [48 + n] else dgs (n / 10) ++ [48 + n % 10]
termination_by n
decreasing_by omega
theorem dgs_lt {n : Nat} (h : n < 10) : dgs n = [48 + n] := by rw [dgs, if_pos h]
theorem dgs_ge {n : Nat} (h : ¬ n < 10) : dgs n = dgs (n / 10) ++ [48 + n % 10] := by rw [dgs, if_neg h]
theorem dgs_dig {n : Nat} (h : n < 256) : dgs n = dig n := by
  unfold dig
  split
  · rename_i h1; exact dgs_lt h1
  · rename_i h1
    split
    · rename_i h2
      rw [dgs_ge h1, dgs_lt (by omega)]; rfl
    · rename_i h2
      rw [dgs_ge h1, dgs_ge (by omega), dgs_lt (by omega)]
      simp only [List.append_assoc, List.cons_append, List.nil_append, List.cons.injEq, and_true]
      omega
theorem dgs_ind {p : Nat → Prop} (h1 : ∀ n, n < 10 → p n) (h2 : ∀ n, ¬ n < 10 → p (n / 10) → p n) (n : Nat) : p n := by
  induction n using Nat.strongRecOn with
  | _ n ih =>
    by_cases h : n < 10
    · exact h1 n h
    · exact h2 n h (ih _ (by omega))
theorem dgs_is (n : Nat) : ∀ c, c ∈ dgs n → 48 ≤ c ∧ c ≤ 57 := by
  refine dgs_ind (p := fun n => ∀ c, c ∈ dgs n → 48 ≤ c ∧ c ≤ 57) (fun n h c hc => ?_) (fun n h ih c hc => ?_) n
  · rw [dgs_lt h] at hc; simp at hc; omega
  · rw [dgs_ge h] at hc
    rcases List.mem_append.1 hc with hc | hc
    · exact ih c hc
    · simp at hc; omega
theorem dgs_byt (n : Nat) : Byt (dgs n) := fun c hc => by have := dgs_is n c hc; omega
theorem dgs_ne (n : Nat) : dgs n ≠ [] := by
  by_cases h : n < 10
  · rw [dgs_lt h]; simp
  · rw [dgs_ge h]; simp
theorem dgs_len : ∀ (k n : Nat), n < 10 ^ (k + 1) → (dgs n).length ≤ k + 1
  | 0, n, h => by rw [dgs_lt (by simpa using h)]; simp
  | k + 1, n, h => by
    by_cases h1 : n < 10
    · rw [dgs_lt h1]; simp
    · rw [dgs_ge h1]
      have := dgs_len k (n / 10) (by rw [Nat.pow_succ] at h; omega)
      simp; omega

/-! ### Texts cut -/
def splB (p : Nat → Bool) : List Nat → List (List Nat)
  | [] => [[]]
  | c :: l => match p c, splB p l with
    | true, r => [] :: r
    | false, q :: r => (c :: q) :: r
    | false, [] => [[c]]
theorem splB_ne (p : Nat → Bool) : ∀ l, splB p l ≠ []
  | [] => by simp [splB]
  | c :: l => by
    rw [splB]
    cases p c with
    | true => simp
    | false => cases splB p l <;> simp
theorem splB_app {p : Nat → Bool} {x : List Nat} (hx : ∀ c, c ∈ x → p c = false) {c : Nat} (hc : p c = true) (r : List Nat) : splB p (x ++ c :: r) = x :: splB p r := by
  induction x with
  | nil => rw [List.nil_append, splB, hc]
  | cons d x ih =>
    rw [List.cons_append, splB, ih fun c hc => hx c (List.mem_cons_of_mem _ hc), hx d List.mem_cons_self]
theorem splB_one {p : Nat → Bool} {x : List Nat} (hx : ∀ c, c ∈ x → p c = false) : splB p x = [x] := by
  induction x with
  | nil => rfl
  | cons d x ih =>
    rw [splB, ih fun c hc => hx c (List.mem_cons_of_mem _ hc), hx d List.mem_cons_self]
theorem splB_len (p : Nat → Bool) : ∀ l : List Nat, (splB p l).length ≤ l.length + 1
  | [] => by simp [splB]
  | c :: l => by
    have := splB_len p l
    rw [splB]
    split
    · simp; omega
    · rename_i q r h1 h2; rw [h2] at this; simp at this ⊢; omega
    · simp
theorem splB_mem (p : Nat → Bool) : ∀ (l : List Nat) (q : List Nat), q ∈ splB p l → q.length ≤ l.length ∧ ∀ x, x ∈ q → x ∈ l
  | [], q, h => by simp [splB] at h; subst h; simp
  | c :: l, q, h => by
    rw [splB] at h
    have ih := splB_mem p l
    split at h
    · rcases List.mem_cons.1 h with rfl | h
      · simp
      · have := ih q h
        exact ⟨by simp; omega, fun x hx => List.mem_cons_of_mem _ (this.2 x hx)⟩
    · rename_i u r h1 h2
      rcases List.mem_cons.1 h with rfl | h
      · have := ih u (by rw [h2]; exact List.mem_cons_self)
        exact ⟨by simp; omega, fun x hx => by
          rcases List.mem_cons.1 hx with rfl | hx
          · exact List.mem_cons_self
          · exact List.mem_cons_of_mem _ (this.2 x hx)⟩
      · have := ih q (by rw [h2]; exact List.mem_cons_of_mem _ h)
        exact ⟨by simp; omega, fun x hx => List.mem_cons_of_mem _ (this.2 x hx)⟩
    · rename_i h1 h2; exact absurd h2 (splB_ne p l)
theorem splB_byt {p : Nat → Bool} {l : List Nat} (h : Byt l) {q : List Nat} (hq : q ∈ splB p l) : Byt q := h.sub (splB_mem p l q hq).2
def eqC (c : Nat) : Nat → Bool := fun x => decide (x = c)
abbrev spl (c : Nat) (l : List Nat) : List (List Nat) := splB (eqC c) l
theorem eqC_ne {c : Nat} {x : List Nat} (h : ∀ d, d ∈ x → d ≠ c) : ∀ d, d ∈ x → eqC c d = false := fun d hd => decide_eq_false (h d hd)
theorem eqC_self (c : Nat) : eqC c c = true := decide_eq_true rfl

end Go.Proofs.YtbjhkhhbdlnfbaaGreatDoor.V
namespace Go.Proofs.YtbjhkhhbdlnfbaaGreatDoor.V

def hx (k : Nat) : Nat := if k < 10 then 48 + k else 87 + k
def unhex (c : Nat) : Option Nat := if 48 ≤ c ∧ c ≤ 57 then some (c - 48) else if 97 ≤ c ∧ c ≤ 102 then some (c - 87) else none
theorem unhex_hx {k : Nat} (h : k < 16) : unhex (hx k) = some k := by
  unfold hx
  split
  · unfold unhex; rw [if_pos (by omega)]; congr 1; omega
  · unfold unhex; rw [if_neg (by omega), if_pos (by omega)]; congr 1; omega
theorem unhex_some {c k : Nat} (h : unhex c = some k) : k < 16 ∧ c = hx k := by
  unfold unhex at h
  split at h
  · injection h with h
    refine ⟨by omega, ?_⟩
    unfold hx; rw [if_pos (by omega)]; omega
  · split at h
    · injection h with h
      refine ⟨by omega, ?_⟩
      unfold hx; rw [if_neg (by omega)]; omega
    · cases h
theorem hx_lt {k : Nat} (h : k < 16) : hx k < 128 ∧ hx k ≠ 58 := by unfold hx; split <;> omega
def mtx (x : Nat) : List Nat := [hx (x / 16), hx (x % 16)]
/-! ### The program's reading -/
/-! ### The document's answer -/
def uh (c : Nat) : Nat := (unhex c).getD 0
def mo (l : List Nat) (i j : Nat) : Nat := if i ≤ 3 * j then 0 else if i = 3 * j + 1 then uh (l.getD (3 * j) 0) else uh (l.getD (3 * j) 0) * 16 + uh (l.getD (3 * j + 1) 0)
end Go.Proofs.YtbjhkhhbdlnfbaaGreatDoor.V
namespace Go.Proofs.YtbjhkhhbdlnfbaaGreatDoor.V

/-! ### Numbers -/
def dgI (n : Int) : List Nat := dgs n.toNat
theorem dgI_is (n : Int) : ∀ c, c ∈ dgI n → 48 ≤ c ∧ c ≤ 57 := dgs_is _
theorem dgI_byt (n : Int) : Byt (dgI n) := dgs_byt _
theorem dg_ne (n : Int) {k : Nat} (hk : k < 48 ∨ 57 < k) : ∀ c, c ∈ dgI n → c ≠ k := fun c hc => by have := dgI_is n c hc; omega
def numM (m : Nat) (bad : Int) : List Nat → Nat → Int
  | [], n => n
  | c :: l, n => match isDig c && !decide (m < n) with
    | true => numM m bad l (n * 10 + (c - 48))
    | false => bad
theorem numM_dgs (m : Nat) (bad : Int) (n : Nat) (h : n / 10 ≤ m) (r : List Nat) : numM m bad (dgs n ++ r) 0 = numM m bad r n := by
  refine dgs_ind (p := fun n => n / 10 ≤ m → ∀ r, numM m bad (dgs n ++ r) 0 = numM m bad r n) (fun n h _ r => ?_) (fun n h1 ih h r => ?_) n h r
  · rw [dgs_lt h]
    show numM m bad ((48 + n) :: r) 0 = _
    rw [numM, isDig_add h, show 0 * 10 + (48 + n - 48) = n by omega, decide_eq_false (Nat.not_lt_zero m)]; rfl
  · rw [dgs_ge h1, List.append_assoc, ih (by omega)]
    show numM m bad ((48 + n % 10) :: r) _ = _
    rw [numM, isDig_add (Nat.mod_lt _ (by decide)), decide_eq_false (by omega : ¬ m < n / 10), show n / 10 * 10 + (48 + n % 10 - 48) = n by omega]; rfl
theorem numM_le (m : Nat) (bad : Int) : ∀ (l : List Nat) (n : Nat), n ≤ m * 10 + 9 → numM m bad l n = bad ∨ (0 ≤ numM m bad l n ∧ numM m bad l n ≤ m * 10 + 9)
  | [], n, h => .inr (by rw [numM]; omega)
  | c :: l, n, h => by
    rw [numM]
    split
    · rename_i h1
      simp only [Bool.and_eq_true, Bool.not_eq_true', decide_eq_false_iff_not, isDig, decide_eq_true_eq] at h1
      exact numM_le m bad l _ (by omega)
    · exact .inl rfl
def numQ (l : List Nat) : Int := match l with
  | [] => -1
  | _ => numM 4095 (-1) l 0
theorem numQ_dgI {n : Int} (h : 0 ≤ n ∧ n ≤ 4095) : numQ (dgI n) = n := by
  have h1 := numM_dgs 4095 (-1) n.toNat (by omega) []
  rw [List.append_nil, numM] at h1
  have h2 := dgs_ne n.toNat
  unfold numQ dgI
  split
  · rename_i h3; exact absurd h3 h2
  · rw [h1]; omega
theorem numQ_le (l : List Nat) : -1 ≤ numQ l ∧ numQ l ≤ 40959 := by
  unfold numQ
  split
  · omega
  · have := numM_le 4095 (-1) l 0 (by decide); omega
theorem numQ_ne {l : List Nat} (h : l ≠ []) : numQ l = numM 4095 (-1) l 0 := by
  unfold numQ; split
  · exact absurd rfl h
  · rfl
def valQ (l : List Nat) : Int := numM 99999 99999 l 0
theorem valQ_dgI {n : Int} (h : 0 ≤ n ∧ n ≤ 4095) : valQ (dgI n) = n := by
  have h1 := numM_dgs 99999 99999 n.toNat (by omega) []
  rw [List.append_nil, numM] at h1
  unfold valQ dgI
  rw [h1]; omega
theorem sp_dg (n : Int) : ∀ c, c ∈ dgI n → eqC 32 c = false := eqC_ne (dg_ne n (.inl (by decide)))

theorem byt_of {l : List Nat} (h : l.all (fun c => decide (c < 256)) = true) : Byt l := fun c hc => of_decide_eq_true (List.all_eq_true.1 h c hc)

/-! ### Figures -/
def hexT (l : List Nat) : List Nat := l.flatMap mtx
theorem hexT_cons (x : Nat) (l : List Nat) : hexT (x :: l) = hx (x / 16) :: hx (x % 16) :: hexT l := rfl
theorem hexT_append (a b : List Nat) : hexT (a ++ b) = hexT a ++ hexT b := by simp [hexT]
theorem hexT_len (l : List Nat) : (hexT l).length = 2 * l.length := by
  induction l with
  | nil => rfl
  | cons x l ih => rw [hexT_cons]; simp only [List.length_cons, ih]; omega
theorem hexT_is {l : List Nat} (h : Byt l) : ∀ c, c ∈ hexT l → (48 ≤ c ∧ c ≤ 57) ∨ (97 ≤ c ∧ c ≤ 102) := by
  have hf : ∀ k, k < 16 → (48 ≤ hx k ∧ hx k ≤ 57) ∨ (97 ≤ hx k ∧ hx k ≤ 102) := by decide
  induction l with
  | nil => intro c hc; cases hc
  | cons x l ih =>
    intro c hc
    have hx := h.head
    rw [hexT_cons] at hc
    rcases List.mem_cons.1 hc with rfl | hc
    · exact hf _ (by omega)
    · rcases List.mem_cons.1 hc with rfl | hc
      · exact hf _ (by omega)
      · exact ih h.tail c hc
theorem hexT_byt {l : List Nat} (h : Byt l) : Byt (hexT l) := fun c hc => by have := hexT_is h c hc; omega
def unhexT : List Nat → Option (List Nat)
  | [] => some []
  | [_] => none
  | a :: b :: r => match unhex a, unhex b with
    | some x, some y => match unhexT r with
      | some l => some ((x * 16 + y) :: l)
      | none => none
    | _, _ => none
theorem unhexT_nil : unhexT [] = some [] := by rw [unhexT]
theorem unhexT_one (c : Nat) : unhexT [c] = none := by rw [unhexT]
theorem unhexT_hexT {l : List Nat} (h : Byt l) : unhexT (hexT l) = some l := by
  induction l with
  | nil => exact unhexT_nil
  | cons x l ih =>
    have hxx := h.head
    rw [hexT_cons, unhexT, unhex_hx (show x / 16 < 16 by omega), unhex_hx (show x % 16 < 16 by omega), ih h.tail]
    show some ((x / 16 * 16 + x % 16) :: l) = _
    rw [show x / 16 * 16 + x % 16 = x by omega]
theorem unhexT_byt : ∀ {s l : List Nat}, unhexT s = some l → Byt l ∧ 2 * l.length = s.length
  | [], l, h => by rw [unhexT_nil] at h; injection h with h; subst h; exact ⟨.nil, rfl⟩
  | [_], l, h => by rw [unhexT_one] at h; cases h
  | a :: b :: r, l, h => by
    rw [unhexT] at h
    split at h
    · rename_i x y hx hy
      split at h
      · rename_i l' hl
        injection h with h; subst h
        have := unhexT_byt hl
        have h1 := (unhex_some hx).1
        have h2 := (unhex_some hy).1
        exact ⟨.cons (by omega) this.1, by simp only [List.length_cons]; omega⟩
      · cases h
    · cases h
def unhexL (s : List Nat) : List Nat := (unhexT s).getD []
theorem unhexL_hexT {l : List Nat} (h : Byt l) : unhexL (hexT l) = l := by unfold unhexL; rw [unhexT_hexT h]; rfl
theorem unhexL_byt (s : List Nat) : Byt (unhexL s) ∧ 2 * (unhexL s).length ≤ s.length := by
  unfold unhexL
  cases h : unhexT s with
  | none => exact ⟨.nil, Nat.zero_le _⟩
  | some l => have := unhexT_byt h; exact ⟨this.1, by show 2 * l.length ≤ _; omega⟩

/-! ### Halves of a key -/
def be4 (n : Nat) : List Nat := [n / 16777216 % 256, n / 65536 % 256, n / 256 % 256, n % 256]
def be8 (n : Nat) : List Nat := be4 (n / 4294967296) ++ be4 (n % 4294967296)
theorem be4_byt (n : Nat) : Byt (be4 n) := by
  intro c hc
  simp only [be4, List.mem_cons, List.not_mem_nil, or_false] at hc
  omega
theorem be8_byt (n : Nat) : Byt (be8 n) := fun c hc => by
  rcases List.mem_append.1 hc with hc | hc
  · exact be4_byt _ c hc
  · exact be4_byt _ c hc
def halfT (n : Nat) : List Nat := hexT (be8 n)
theorem halfT_len (n : Nat) : (halfT n).length = 16 := by unfold halfT; rw [hexT_len]; rfl
theorem halfT_byt (n : Nat) : Byt (halfT n) := hexT_byt (be8_byt n)
def beN (l : List Nat) : Nat := l.foldl (fun n x => (n * 256 + x) % 18446744073709551616) 0
def be32 (b : List Nat) (at_ : Nat) : Nat := match decide (at_ + 4 ≤ b.length) with
  | true => ((b.drop at_).take 4).foldl (fun n x => (n * 256 + x) % 4294967296) 0
  | false => 0
theorem fold_lt (M : Nat) (hM : 0 < M) (f : Nat → Nat → Nat) : ∀ (l : List Nat) (n : Nat), n < M → l.foldl (fun n x => f n x % M) n < M
  | [], n, h => h
  | x :: l, n, _ => fold_lt M hM f l _ (Nat.mod_lt _ hM)
theorem be32_lt (b : List Nat) (k : Nat) : be32 b k < 4294967296 := by
  unfold be32
  split
  · exact fold_lt _ (by decide) (fun n x => n * 256 + x) _ 0 (by decide)
  · decide
def pKey (s : List Nat) : Nat := be32 (unhexL s) 0 * 4294967296 + be32 (unhexL s) 4
def rKey (s : List Nat) : Nat := beN (unhexL s)
theorem pKey_lt (s : List Nat) : pKey s < 18446744073709551616 := by
  have h1 := be32_lt (unhexL s) 0; have h2 := be32_lt (unhexL s) 4
  unfold pKey; omega
theorem pKey_half {n : Nat} (h : n < 18446744073709551616) : pKey (halfT n) = n := by
  unfold pKey halfT
  rw [unhexL_hexT (be8_byt n)]
  simp only [be32, be8, be4, List.cons_append, List.nil_append, List.length_cons, List.length_nil, List.drop, List.take, List.foldl, Nat.reduceAdd, Nat.reduceLeDiff, decide_true]
  omega
theorem rKey_half {n : Nat} (h : n < 18446744073709551616) : rKey (halfT n) = n := by
  unfold rKey halfT
  rw [unhexL_hexT (be8_byt n)]
  simp only [beN, be8, be4, List.cons_append, List.nil_append, List.foldl]
  omega

/-! ### Steps -/
structure Stp where
  kind : Int
  nic : Int
  num : Int
  frame : List Nat
  lo : Nat
  hi : Nat
structure Stp.ok (a : Stp) : Prop where
  kind : -9223372036854775808 ≤ a.kind ∧ a.kind ≤ 9223372036854775807
  nic : -9223372036854775808 ≤ a.nic ∧ a.nic ≤ 9223372036854775807
  num : -9223372036854775808 ≤ a.num ∧ a.num ≤ 9223372036854775807
  frame : Byt a.frame
  lo : a.lo < 18446744073709551616
  hi : a.hi < 18446744073709551616
def zeroS : Stp := ⟨0, 0, 0, [], 0, 0⟩
def MayS (a : Stp) : Prop := (1 ≤ a.kind ∧ a.kind ≤ 5) ∧ (0 ≤ a.nic ∧ a.nic ≤ 1) ∧ (0 ≤ a.num ∧ a.num ≤ 4095) ∧ a.frame.length ≤ 1600 ∧
  (a.kind ≠ 1 → a.frame.length = 0) ∧ (3 < a.kind → a.nic = 0) ∧ (a.kind ≠ 5 → a.lo = 0 ∧ a.hi = 0) ∧ (a.kind = 1 ∨ a.kind = 5 → a.num = 0)
instance (a : Stp) : Decidable (MayS a) := by unfold MayS; infer_instance
def maySB (a : Stp) : Bool := decide (MayS a)
def wFrame : List Nat := [102, 114, 97, 109, 101]
def wPoll : List Nat := [112, 111, 108, 108]
def wDone : List Nat := [100, 111, 110, 101]
def wTick : List Nat := [116, 105, 99, 107]
def wSecret : List Nat := [115, 101, 99, 114, 101, 116]
def stW : Int → List Nat
  | .ofNat 1 => wFrame
  | .ofNat 2 => wPoll
  | .ofNat 3 => wDone
  | .ofNat 4 => wTick
  | .ofNat 5 => wSecret
  | _ => []
theorem stW_byt (n : Int) : Byt (stW n) := by
  unfold stW
  split <;> exact byt_of rfl
def frameT (l : List Nat) : List Nat := match decide (l.length = 0) with
  | true => [45]
  | false => hexT l
def stN (a : Stp) : List Nat := match a.kind with
  | .ofNat 1 => wFrame ++ 32 :: (dgI a.nic ++ 32 :: frameT a.frame)
  | .ofNat 2 => wPoll ++ 32 :: (dgI a.nic ++ 32 :: dgI a.num)
  | .ofNat 3 => wDone ++ 32 :: (dgI a.nic ++ 32 :: dgI a.num)
  | .ofNat 4 => wTick ++ 32 :: dgI a.num
  | _ => wSecret ++ 32 :: (halfT a.lo ++ 32 :: halfT a.hi)
def lineS (a : Stp) : List Nat := match maySB a with
  | true => stN a
  | false => []
theorem lineS_may {a : Stp} (h : MayS a) : lineS a = stN a := by unfold lineS maySB; rw [decide_eq_true h]
theorem lineS_no {a : Stp} (h : ¬ MayS a) : lineS a = [] := by unfold lineS maySB; rw [decide_eq_false h]

theorem frameT_len (l : List Nat) : (frameT l).length ≤ 2 * l.length + 1 := by
  unfold frameT
  split
  · simp
  · rw [hexT_len]; omega
theorem frameT_byt {l : List Nat} (h : Byt l) : Byt (frameT l) := by
  unfold frameT
  split
  · exact byt_of rfl
  · exact hexT_byt h
theorem frameT_ne {l : List Nat} (h : Byt l) : ∀ c, c ∈ frameT l → c ≠ 32 ∧ c ≠ 10 := by
  unfold frameT
  split
  · intro c hc; simp at hc; subst hc; decide
  · intro c hc; have := hexT_is h c hc; omega
theorem halfT_ne (n : Nat) : ∀ c, c ∈ halfT n → c ≠ 32 ∧ c ≠ 10 := fun c hc => by have := hexT_is (be8_byt n) c hc; omega
theorem k5_cases {n : Int} (h : 1 ≤ n ∧ n ≤ 5) : n = 1 ∨ n = 2 ∨ n = 3 ∨ n = 4 ∨ n = 5 := by omega

theorem sp_fr {l : List Nat} (h : Byt l) : ∀ c, c ∈ frameT l → eqC 32 c = false := eqC_ne fun c hc => (frameT_ne h c hc).1
theorem sp_hf (n : Nat) : ∀ c, c ∈ halfT n → eqC 32 c = false := eqC_ne fun c hc => (halfT_ne n c hc).1
def wd (s : List Nat) (i : Nat) : List Nat := (spl 32 s).getD i []

/-! ### What a line tells of a step: by the program -/
def kindAt (w : List Nat) : Nat → Int
  | 0 => 0
  | k + 1 => match decide (w = stW ((k + 1 : Nat) : Int)) with
    | true => ((k + 1 : Nat) : Int)
    | false => kindAt w k
theorem kindAt_le (w : List Nat) : ∀ k, 0 ≤ kindAt w k ∧ kindAt w k ≤ k
  | 0 => by unfold kindAt; omega
  | k + 1 => by
    have := kindAt_le w k
    rw [kindAt]
    split <;> omega
def pStpAt (s : List Nat) : Int → Stp
  | .ofNat 1 => ⟨1, numQ (wd s 1), 0, unhexL (wd s 2), 0, 0⟩
  | .ofNat 2 => ⟨2, numQ (wd s 1), numQ (wd s 2), [], 0, 0⟩
  | .ofNat 3 => ⟨3, numQ (wd s 1), numQ (wd s 2), [], 0, 0⟩
  | .ofNat 4 => ⟨4, 0, numQ (wd s 1), [], 0, 0⟩
  | .ofNat 5 => ⟨5, 0, 0, [], pKey (wd s 1), pKey (wd s 2)⟩
  | n => ⟨n, 0, 0, [], 0, 0⟩
def pStp (s : List Nat) : Stp := pStpAt s (kindAt (wd s 0) 5)
def rIsS (s : List Nat) (n : Nat) (w : List Nat) : Bool := decide ((spl 32 s).length = n) && decide (wd s 0 = w)
def rStp (s : List Nat) : Stp := match rIsS s 3 wSecret with
  | true => ⟨5, 0, 0, [], rKey (wd s 1), rKey (wd s 2)⟩
  | false => match rIsS s 2 wTick with
    | true => ⟨4, 0, valQ (wd s 1), [], 0, 0⟩
    | false => match rIsS s 3 wDone with
      | true => ⟨3, valQ (wd s 1), valQ (wd s 2), [], 0, 0⟩
      | false => match rIsS s 3 wPoll with
        | true => ⟨2, valQ (wd s 1), valQ (wd s 2), [], 0, 0⟩
        | false => match rIsS s 3 wFrame with
          | true => ⟨1, valQ (wd s 1), 0, unhexL (wd s 2), 0, 0⟩
          | false => zeroS
theorem frame_back {l : List Nat} (h : Byt l) : unhexL (frameT l) = l := by
  unfold frameT
  split
  · rename_i h1
    have h1 := List.eq_nil_of_length_eq_zero (of_decide_eq_true h1)
    subst h1; unfold unhexL; rw [unhexT]; rfl
  · exact unhexL_hexT h
theorem read_line {a : Stp} (h : MayS a) (ok : a.ok) : pStp (stN a) = a ∧ rStp (stN a) = a := by
  obtain ⟨kind, nic, num, frame, lo, hi⟩ := a
  obtain ⟨h1, h2, h3, h4, h5, h6, h7, h8⟩ := h
  have kf := ok.frame; have kl := ok.lo; have kh := ok.hi
  dsimp only at *
  have hnil : ∀ {l : List Nat}, l.length = 0 → l = [] := fun h => List.eq_nil_of_length_eq_zero h
  rcases k5_cases h1 with rfl | rfl | rfl | rfl | rfl
  · obtain ⟨rfl, rfl⟩ := h7 (by decide)
    obtain rfl := h8 (.inl rfl)
    have hsp : spl 32 (stN ⟨1, nic, 0, frame, 0, 0⟩) = [wFrame, dgI nic, frameT frame] := by
      show spl 32 (wFrame ++ 32 :: (dgI nic ++ 32 :: frameT frame)) = _
      rw [spl, splB_app (by decide) rfl, splB_app (sp_dg nic) rfl, splB_one (sp_fr kf)]
    unfold pStp rStp rIsS wd
    rw [hsp]
    refine ⟨?_, ?_⟩
    · show pStpAt _ 1 = _
      unfold pStpAt wd
      rw [hsp]
      show Stp.mk 1 (numQ (dgI nic)) 0 (unhexL (frameT frame)) 0 0 = _
      rw [numQ_dgI (by omega), frame_back kf]
    · show Stp.mk 1 (valQ (dgI nic)) 0 (unhexL (frameT frame)) 0 0 = _
      rw [valQ_dgI (by omega), frame_back kf]
  · obtain ⟨rfl, rfl⟩ := h7 (by decide)
    obtain rfl := hnil (h5 (by decide))
    have hsp : spl 32 (stN ⟨2, nic, num, [], 0, 0⟩) = [wPoll, dgI nic, dgI num] := by
      show spl 32 (wPoll ++ 32 :: (dgI nic ++ 32 :: dgI num)) = _
      rw [spl, splB_app (by decide) rfl, splB_app (sp_dg nic) rfl, splB_one (sp_dg num)]
    unfold pStp rStp rIsS wd
    rw [hsp]
    refine ⟨?_, ?_⟩
    · show pStpAt _ 2 = _
      unfold pStpAt wd
      rw [hsp]
      show Stp.mk 2 (numQ (dgI nic)) (numQ (dgI num)) [] 0 0 = _
      rw [numQ_dgI (by omega), numQ_dgI (by omega)]
    · show Stp.mk 2 (valQ (dgI nic)) (valQ (dgI num)) [] 0 0 = _
      rw [valQ_dgI (by omega), valQ_dgI (by omega)]
  · obtain ⟨rfl, rfl⟩ := h7 (by decide)
    obtain rfl := hnil (h5 (by decide))
    have hsp : spl 32 (stN ⟨3, nic, num, [], 0, 0⟩) = [wDone, dgI nic, dgI num] := by
      show spl 32 (wDone ++ 32 :: (dgI nic ++ 32 :: dgI num)) = _
      rw [spl, splB_app (by decide) rfl, splB_app (sp_dg nic) rfl, splB_one (sp_dg num)]
    unfold pStp rStp rIsS wd
    rw [hsp]
    refine ⟨?_, ?_⟩
    · show pStpAt _ 3 = _
      unfold pStpAt wd
      rw [hsp]
      show Stp.mk 3 (numQ (dgI nic)) (numQ (dgI num)) [] 0 0 = _
      rw [numQ_dgI (by omega), numQ_dgI (by omega)]
    · show Stp.mk 3 (valQ (dgI nic)) (valQ (dgI num)) [] 0 0 = _
      rw [valQ_dgI (by omega), valQ_dgI (by omega)]
  · obtain ⟨rfl, rfl⟩ := h7 (by decide)
    obtain rfl := hnil (h5 (by decide))
    obtain rfl := h6 (by decide)
    have hsp : spl 32 (stN ⟨4, 0, num, [], 0, 0⟩) = [wTick, dgI num] := by
      show spl 32 (wTick ++ 32 :: dgI num) = _
      rw [spl, splB_app (by decide) rfl, splB_one (sp_dg num)]
    unfold pStp rStp rIsS wd
    rw [hsp]
    refine ⟨?_, ?_⟩
    · show pStpAt _ 4 = _
      unfold pStpAt wd
      rw [hsp]
      show Stp.mk 4 0 (numQ (dgI num)) [] 0 0 = _
      rw [numQ_dgI (by omega)]
    · show Stp.mk 4 0 (valQ (dgI num)) [] 0 0 = _
      rw [valQ_dgI (by omega)]
  · obtain rfl := hnil (h5 (by decide))
    obtain rfl := h6 (by decide)
    obtain rfl := h8 (.inr rfl)
    have hsp : spl 32 (stN ⟨5, 0, 0, [], lo, hi⟩) = [wSecret, halfT lo, halfT hi] := by
      show spl 32 (wSecret ++ 32 :: (halfT lo ++ 32 :: halfT hi)) = _
      rw [spl, splB_app (by decide) rfl, splB_app (sp_hf lo) rfl, splB_one (sp_hf hi)]
    unfold pStp rStp rIsS wd
    rw [hsp]
    refine ⟨?_, ?_⟩
    · show pStpAt _ 5 = _
      unfold pStpAt wd
      rw [hsp]
      show Stp.mk 5 0 0 [] (pKey (halfT lo)) (pKey (halfT hi)) = _
      rw [pKey_half kl, pKey_half kh]
    · show Stp.mk 5 0 0 [] (rKey (halfT lo)) (rKey (halfT hi)) = _
      rw [rKey_half kl, rKey_half kh]

/-! ### Both readings come to the same -/
theorem pStpAt_ok (s : List Nat) (n : Int) (hn : 0 ≤ n ∧ n ≤ 5) : (pStpAt s n).ok := by
  have n1 := numQ_le (wd s 1); have n2 := numQ_le (wd s 2)
  have k1 := pKey_lt (wd s 1); have k2 := pKey_lt (wd s 2)
  have u := (unhexL_byt (wd s 2)).1
  unfold pStpAt
  split <;> (constructor <;> dsimp only <;> first | omega | assumption | exact .nil)
def pReadS (s : List Nat) : Stp × Int := match maySB (pStp s) && decide (lineS (pStp s) = s) with
  | true => (pStp s, 0)
  | false => (zeroS, 3)
theorem pReadS_line {a : Stp} (h : MayS a) (ok : a.ok) : pReadS (lineS a) = (a, 0) := by
  unfold pReadS
  rw [lineS_may h, (read_line h ok).1, lineS_may h, decide_eq_true rfl, maySB, decide_eq_true h]; rfl
theorem ln_of {w y : List Nat} (hw : Byt w) (h0 : 0 < w.length) (hl : w.length ≤ 10) (h10 : ∀ c, c ∈ w → c ≠ 10) (h35 : ∀ c, c ∈ w → c ≠ 35) (hy : Byt y) (hyl : y.length ≤ 3900) (hy10 : ∀ c, c ∈ y → c ≠ 10) :
    Byt (w ++ 32 :: y) ∧ (w ++ 32 :: y).length ≤ 4000 ∧ w ++ 32 :: y ≠ [] ∧ (∀ c, c ∈ w ++ 32 :: y → c ≠ 10) ∧ ∀ c, (w ++ 32 :: y).head? = some c → c ≠ 35 := by
  refine ⟨fun c hc => ?_, by simp only [List.length_append, List.length_cons]; omega, by simp, fun c hc => ?_, fun c hc => ?_⟩
  · rcases List.mem_append.1 hc with hc | hc
    · exact hw c hc
    · rcases List.mem_cons.1 hc with rfl | hc
      · decide
      · exact hy c hc
  · rcases List.mem_append.1 hc with hc | hc
    · exact h10 c hc
    · rcases List.mem_cons.1 hc with rfl | hc
      · decide
      · exact hy10 c hc
  · cases w with
    | nil => simp at h0
    | cons x w =>
      simp only [List.cons_append, List.head?_cons, Option.some.injEq] at hc
      subst hc
      exact h35 _ List.mem_cons_self
theorem b32 {x y : List Nat} (hx : Byt x) (hy : Byt y) : Byt (x ++ 32 :: y) := fun c hc => by
  rcases List.mem_append.1 hc with hc | hc
  · exact hx c hc
  · rcases List.mem_cons.1 hc with rfl | hc
    · decide
    · exact hy c hc
theorem n32 {x y : List Nat} (hx : ∀ c, c ∈ x → c ≠ 10) (hy : ∀ c, c ∈ y → c ≠ 10) : ∀ c, c ∈ x ++ 32 :: y → c ≠ 10 := fun c hc => by
  rcases List.mem_append.1 hc with hc | hc
  · exact hx c hc
  · rcases List.mem_cons.1 hc with rfl | hc
    · decide
    · exact hy c hc
theorem stN_ok {a : Stp} (h : MayS a) (ok : a.ok) : Byt (stN a) ∧ (stN a).length ≤ 4000 ∧ stN a ≠ [] ∧ (∀ c, c ∈ stN a → c ≠ 10) ∧ ∀ c, (stN a).head? = some c → c ≠ 35 := by
  obtain ⟨kind, nic, num, frame, lo, hi⟩ := a
  obtain ⟨h1, h2, h3, h4, h5, h6, h7, h8⟩ := h
  have kf := ok.frame
  dsimp only at *
  have ln : (dgI nic).length ≤ 10 := dgs_len 9 nic.toNat (by omega)
  have lm : (dgI num).length ≤ 10 := dgs_len 9 num.toNat (by omega)
  have lf := frameT_len frame
  have l1 := halfT_len lo; have l2 := halfT_len hi
  have d10 : ∀ n c, c ∈ dgI n → c ≠ 10 := fun n => dg_ne n (.inl (by decide))
  rcases k5_cases h1 with rfl | rfl | rfl | rfl | rfl
  · exact ln_of (w := wFrame) (y := dgI nic ++ 32 :: frameT frame) (byt_of rfl) (by decide) (by decide) (by decide) (by decide) (b32 (dgI_byt _) (frameT_byt kf)) (by simp only [List.length_append, List.length_cons]; omega) (n32 (d10 _) fun c hc => (frameT_ne kf c hc).2)
  · exact ln_of (w := wPoll) (y := dgI nic ++ 32 :: dgI num) (byt_of rfl) (by decide) (by decide) (by decide) (by decide) (b32 (dgI_byt _) (dgI_byt _)) (by simp only [List.length_append, List.length_cons]; omega) (n32 (d10 _) (d10 _))
  · exact ln_of (w := wDone) (y := dgI nic ++ 32 :: dgI num) (byt_of rfl) (by decide) (by decide) (by decide) (by decide) (b32 (dgI_byt _) (dgI_byt _)) (by simp only [List.length_append, List.length_cons]; omega) (n32 (d10 _) (d10 _))
  · exact ln_of (w := wTick) (y := dgI num) (byt_of rfl) (by decide) (by decide) (by decide) (by decide) (dgI_byt _) (by omega) (d10 _)
  · exact ln_of (w := wSecret) (y := halfT lo ++ 32 :: halfT hi) (byt_of rfl) (by decide) (by decide) (by decide) (by decide) (b32 (halfT_byt _) (halfT_byt _)) (by simp only [List.length_append, List.length_cons]; omega) (n32 (fun c hc => (halfT_ne lo c hc).2) fun c hc => (halfT_ne hi c hc).2)
end Go.Proofs.YtbjhkhhbdlnfbaaGreatDoor.V
namespace Go.Proofs.YtbjhkhhbdlnfbaaGreatDoor.V

def skipL (q : List Nat) : Bool := match q with
  | [] => true
  | c :: _ => decide (c = 35)
def pLinesS : List (List Nat) → Nat → List Stp → List Stp × Int × Int
  | [], _, out => (out, 0, 0)
  | q :: r, i, out => match skipL q with
    | true => pLinesS r (i + 1) out
    | false => match decide ((pReadS q).2 = 0) with
      | true => match decide (out.length = 400) with
        | true => ([], (i + 1 : Nat), 14)
        | false => pLinesS r (i + 1) (out ++ [(pReadS q).1])
      | false => ([], (i + 1 : Nat), (pReadS q).2)
def parseS (s : List Nat) : List Stp × Int × Int := pLinesS (spl 10 s) 0 []
theorem pReadS_err (s : List Nat) : (pReadS s).2 = 0 ∨ (pReadS s).2 = 3 := by
  unfold pReadS; split
  · exact .inl rfl
  · exact .inr rfl
def catS : List Stp → List Nat
  | [] => []
  | a :: r => (lineS a ++ [10]) ++ catS r
def allMay (l : List Stp) : Bool := l.all maySB
def textS (l : List Stp) : List Nat × Int := match allMay l with
  | true => match decide (400 < l.length) with
    | true => ([], 14)
    | false => (catS l, 0)
  | false => ([], 2)
theorem catS_app (a b : List Stp) : catS (a ++ b) = catS a ++ catS b := by
  induction a with
  | nil => rfl
  | cons x a ih => rw [List.cons_append, catS, catS, ih, List.append_assoc (lineS x ++ [10])]
theorem lineS_byt {a : Stp} (ok : a.ok) : Byt (lineS a) := by
  by_cases h : MayS a
  · rw [lineS_may h]; exact (stN_ok h ok).1
  · rw [lineS_no h]; exact .nil
theorem lineS_len {a : Stp} (ok : a.ok) : (lineS a).length ≤ 4000 := by
  by_cases h : MayS a
  · rw [lineS_may h]; exact (stN_ok h ok).2.1
  · rw [lineS_no h]; decide
theorem catS_len : ∀ {l : List Stp}, (∀ a, a ∈ l → a.ok) → (catS l).length ≤ 4001 * l.length
  | [], _ => by simp [catS]
  | a :: l, h => by
    have h1 := lineS_len (h a List.mem_cons_self)
    have h2 := catS_len fun x hx => h x (List.mem_cons_of_mem _ hx)
    rw [catS]
    simp only [List.length_append, List.length_cons, List.length_nil]
    omega
theorem spl_cat : ∀ {l : List Stp}, (∀ a, a ∈ l → a.ok) → (∀ a, a ∈ l → MayS a) → spl 10 (catS l) = l.map lineS ++ [[]]
  | [], _, _ => rfl
  | a :: l, h, hm => by
    have h1 := hm a List.mem_cons_self
    have h2 := (stN_ok h1 (h a List.mem_cons_self)).2.2.2.1
    have ih := spl_cat (fun x hx => h x (List.mem_cons_of_mem _ hx)) fun x hx => hm x (List.mem_cons_of_mem _ hx)
    rw [List.map_cons, List.cons_append, ← ih, lineS_may h1, catS, lineS_may h1, List.append_assoc]
    exact splB_app (eqC_ne h2) (eqC_self 10) _
theorem pLines_back : ∀ (l : List Stp) (i : Nat) (out : List Stp), out.length + l.length ≤ 400 → (∀ a, a ∈ l → a.ok) → (∀ a, a ∈ l → MayS a) → pLinesS (l.map lineS ++ [[]]) i out = (out ++ l, 0, 0)
  | [], i, out, _, _, _ => by rw [List.append_nil]; rfl
  | a :: l, i, out, hl, h, hm => by
    have h1 := hm a List.mem_cons_self
    have h0 := h a List.mem_cons_self
    obtain ⟨_, _, h2, _, h3⟩ := stN_ok h1 h0
    rw [List.length_cons] at hl
    have hs : skipL (lineS a) = false := by
      rw [lineS_may h1]
      cases hq : stN a with
      | nil => exact absurd hq h2
      | cons c r => exact decide_eq_false (h3 c (by rw [hq]; rfl))
    rw [List.map_cons, List.cons_append, pLinesS, hs, pReadS_line h1 h0]
    dsimp only
    rw [decide_eq_true rfl, decide_eq_false (show ¬ out.length = 400 by omega)]
    dsimp only
    rw [pLines_back l (i + 1) (out ++ [a]) (by simp; omega) (fun x hx => h x (List.mem_cons_of_mem _ hx)) fun x hx => hm x (List.mem_cons_of_mem _ hx), List.append_assoc]
    rfl
theorem allMay_iff {l : List Stp} : allMay l = true ↔ ∀ a, a ∈ l → MayS a := by
  unfold allMay
  rw [List.all_eq_true]
  exact ⟨fun h a ha => of_decide_eq_true (h a ha), fun h a ha => decide_eq_true (h a ha)⟩
theorem allMay_no {l : List Stp} {a : Stp} (ha : a ∈ l) (h : ¬ MayS a) : allMay l = false := by
  rw [Bool.eq_false_iff]
  intro g
  exact h (allMay_iff.1 g a ha)
end Go.Proofs.YtbjhkhhbdlnfbaaGreatDoor.V
namespace Go.Proofs.YtbjhkhhbdlnfbaaGreatDoor.V

def tk : Stp := ⟨4, 0, 0, [], 0, 0⟩
theorem tk_ok : tk.ok := ⟨by decide, by decide, by decide, .nil, by decide, by decide⟩
theorem tk_may : MayS tk := by decide
def tkL : List Nat := [116, 105, 99, 107, 32, 48, 10]
def noL : List Nat := [35, 32, 110, 111, 110, 101, 10]
theorem tk_line : lineS tk ++ [10] = tkL := by
  rw [lineS_may tk_may]
  show (wTick ++ 32 :: dgI 0) ++ [10] = tkL
  have : dgI 0 = [48] := by unfold dgI; rw [dgs_lt (by decide)]; rfl
  rw [this]
  rfl
def rep (x : List Nat) : Nat → List Nat
  | 0 => []
  | n + 1 => rep x n ++ x
theorem rep_front (x : List Nat) : ∀ n, rep x (n + 1) = x ++ rep x n
  | 0 => by simp [rep]
  | n + 1 => by
    rw [rep, rep_front x n, List.append_assoc]
    congr 1
    exact rep_front x n
theorem rep_len (x : List Nat) : ∀ n, (rep x n).length = n * x.length
  | 0 => by simp [rep]
  | n + 1 => by rw [rep, List.length_append, rep_len x n, Nat.succ_mul]
theorem rep_byt {x : List Nat} (h : Byt x) : ∀ n, Byt (rep x n)
  | 0 => .nil
  | n + 1 => fun c hc => by
    rcases List.mem_append.1 hc with hc | hc
    · exact rep_byt h n c hc
    · exact h c hc
theorem noL_byt : Byt noL := byt_of (by decide)
theorem tkL_byt : Byt tkL := byt_of (by decide)
theorem byt_app {a b : List Nat} (h : Byt a) (k : Byt b) : Byt (a ++ b) := fun c hc => by
  rcases List.mem_append.1 hc with hc | hc
  · exact h c hc
  · exact k c hc

theorem tks_mem {n : Nat} : ∀ a, a ∈ List.replicate n tk → a = tk := fun _ h => (List.mem_replicate.1 h).2
theorem tks_ok (n : Nat) : ∀ a, a ∈ List.replicate n tk → a.ok := fun a h => (tks_mem a h) ▸ tk_ok
theorem tks_may (n : Nat) : ∀ a, a ∈ List.replicate n tk → MayS a := fun a h => (tks_mem a h) ▸ tk_may
theorem cat_tks : ∀ n, catS (List.replicate n tk) = rep tkL n
  | 0 => rfl
  | n + 1 => by rw [List.replicate_succ, catS, tk_line, cat_tks n, rep_front]
theorem text_fit {n : Nat} (h : n ≤ 400) : textS (List.replicate n tk) = (rep tkL n, 0) := by
  unfold textS
  rw [allMay_iff.2 (tks_may n), List.length_replicate, decide_eq_false (by omega), cat_tks]
theorem text_big {n : Nat} (h : 400 < n) : textS (List.replicate n tk) = ([], 14) := by
  unfold textS
  rw [allMay_iff.2 (tks_may n), List.length_replicate, decide_eq_true h]

theorem spl_no (r : List Nat) : ∀ b, spl 10 (rep noL b ++ r) = List.replicate b [35, 32, 110, 111, 110, 101] ++ spl 10 r
  | 0 => rfl
  | b + 1 => by
    rw [rep_front, List.append_assoc]
    show splB (eqC 10) ([35, 32, 110, 111, 110, 101] ++ 10 :: (rep noL b ++ r)) = _
    rw [splB_app (by decide) (eqC_self 10)]
    show _ :: spl 10 (rep noL b ++ r) = _
    rw [spl_no r b]
    rfl
theorem lines_no (l : List (List Nat)) : ∀ (b i : Nat) (out : List Stp), pLinesS (List.replicate b [35, 32, 110, 111, 110, 101] ++ l) i out = pLinesS l (i + b) out
  | 0, _, _ => rfl
  | b + 1, i, out => by
    rw [List.replicate_succ, List.cons_append, pLinesS]
    show pLinesS (List.replicate b _ ++ l) (i + 1) out = _
    rw [lines_no l b, Nat.add_assoc, Nat.add_comm 1 b]
theorem lines_big (r : List (List Nat)) : ∀ (n k i : Nat) (out : List Stp), out.length + k = 400 → k < n → pLinesS (List.replicate n (lineS tk) ++ r) i out = ([], ((i + k + 1 : Nat) : Int), 14)
  | 0, _, _, _, _, h => absurd h (Nat.not_lt_zero _)
  | n + 1, k, i, out, h, hk => by
    have hs : skipL (lineS tk) = false := by
      rw [lineS_may tk_may]
      rfl
    rw [List.replicate_succ, List.cons_append, pLinesS, hs, pReadS_line tk_may tk_ok]
    dsimp only
    rw [decide_eq_true rfl]
    dsimp only
    by_cases he : out.length = 400
    · obtain rfl : k = 0 := by omega
      rw [decide_eq_true he]
    · rw [decide_eq_false he]
      dsimp only
      rw [lines_big r n (k - 1) (i + 1) (out ++ [tk]) (by rw [List.length_append, List.length_singleton]; omega) (by omega), show i + 1 + (k - 1) + 1 = i + k + 1 by omega]
theorem parse_fit {b n : Nat} (h : n ≤ 400) : parseS (rep noL b ++ rep tkL n) = (List.replicate n tk, 0, 0) := by
  unfold parseS
  rw [spl_no, lines_no, ← cat_tks, spl_cat (tks_ok n) (tks_may n), pLines_back _ _ [] (by simpa using h) (tks_ok n) (tks_may n)]
  rfl
theorem parse_big {b n : Nat} (h : 400 < n) : parseS (rep noL b ++ rep tkL n) = ([], ((b + 401 : Nat) : Int), 14) := by
  unfold parseS
  rw [spl_no, lines_no, ← cat_tks, spl_cat (tks_ok n) (tks_may n), List.map_replicate, lines_big _ n 400 _ [] rfl h]
  congr 2
  congr 1
  omega
end Go.Proofs.YtbjhkhhbdlnfbaaGreatDoor.V
