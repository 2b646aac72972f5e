/-
  The sum of bytes by a key, by value. No condition.
-/
import Derived.Test.YtcbpdjikdohegaaVw
import Derived.Laws.Bits64
import Derived.Laws.BitsLemmas
namespace Go.Proofs.Ytcbpdjikdohegaa.V

abbrev w64 (n : Int) : Int := IntKind.u64.wrap n
def U64 (n : Int) : Prop := 0 ≤ n ∧ n < 18446744073709551616
theorem w64_eq (n : Int) : w64 n = n % 18446744073709551616 := IntKind.wrap_u64 n
theorem w64_in (n : Int) : U64 (w64 n) := by unfold U64; rw [w64_eq]; omega
theorem w64_id {n : Int} (h : U64 n) : w64 n = n := by unfold U64 at h; rw [w64_eq]; omega
def xorI (a b : Int) : Int := w64 ((BitVec.ofInt IntKind.u64.bits a ^^^ BitVec.ofInt IntKind.u64.bits b).toNat)
def orI (a b : Int) : Int := w64 ((BitVec.ofInt IntKind.u64.bits a ||| BitVec.ofInt IntKind.u64.bits b).toNat)
theorem xorI_in (a b : Int) : U64 (xorI a b) := w64_in _
theorem or_nat {a b : Nat} (ha : a < 18446744073709551616) (hb : b < 18446744073709551616) : orI a b = ((a ||| b : Nat) : Int) := by
  have e : ∀ n : Nat, n < 18446744073709551616 → (BitVec.ofInt IntKind.u64.bits (n : Int)).toNat = n := fun n hn => by
    show (BitVec.ofInt 64 (n : Int)).toNat = n
    rw [BitVec.toNat_ofInt]
    omega
  unfold orI
  rw [BitVec.toNat_or, e a ha, e b hb]
  have key : ∀ n : Nat, 2 ^ n = 18446744073709551616 → a ||| b < 18446744073709551616 := fun n hn => by
    rw [← hn] at ha hb ⊢
    exact Nat.or_lt_two_pow ha hb
  have := key 64 (by simp only [Nat.reducePow])
  exact w64_id ⟨by omega, by omega⟩
/-- Bits that don't meet. -/
theorem or_apart {a x : Int} {k : Nat} (ha : 0 ≤ a) (ha2 : a < 18446744073709551616) (hak : a < 2 ^ k) (hx : 0 ≤ x) (hxk : x * 2 ^ k < 18446744073709551616) : orI a (x * 2 ^ k) = a + x * 2 ^ k ∧ orI (x * 2 ^ k) a = a + x * 2 ^ k := by
  obtain ⟨n, rfl⟩ := Int.eq_ofNat_of_zero_le ha
  obtain ⟨m, rfl⟩ := Int.eq_ofNat_of_zero_le hx
  have hc : ((2 ^ k : Nat) : Int) = 2 ^ k := by rw [Int.natCast_pow]; rfl
  have hn : n < 2 ^ k := by rw [← hc] at hak; exact Int.ofNat_lt.1 hak
  rw [← hc, ← Int.natCast_mul] at hxk ⊢
  have hm : m * 2 ^ k < 18446744073709551616 := by omega
  by_cases hm0 : m = 0
  · subst hm0
    have hz : ∀ n : Nat, n < 18446744073709551616 → orI n ((0 * 2 ^ k : Nat) : Int) = n ∧ orI ((0 * 2 ^ k : Nat) : Int) n = n := fun n hn => by
      rw [Nat.zero_mul]
      exact ⟨by rw [or_nat hn (by decide), Nat.or_zero], by rw [or_nat (by decide) hn, Nat.zero_or]⟩
    obtain ⟨h1, h2⟩ := hz n (by omega)
    rw [h1, h2, Nat.zero_mul]; exact ⟨by simp, by simp⟩
  · have hle : 2 ^ k ≤ m * 2 ^ k := Nat.le_mul_of_pos_left _ (Nat.pos_of_ne_zero hm0)
    have e : m * 2 ^ k ||| n = m * 2 ^ k + n := by
      have := Nat.shiftLeft_add_eq_or_of_lt hn m
      rw [Nat.shiftLeft_eq] at this
      exact this.symm
    rw [or_nat (by omega) hm, or_nat hm (by omega), Nat.or_comm, e]
    omega
def rotI (x : Int) (k : Nat) : Int := x * 2 ^ k % 18446744073709551616 + x / 2 ^ (64 - k)
def byS (x : Int) : Int := w64 (w64 (x * 2) + w64 (x.tdiv 9223372036854775808))
theorem pow_two_step (k : Nat) : (2 : Int) ^ (k + 1) = 2 * 2 ^ k := by rw [Int.pow_succ, Int.mul_comm]
theorem rot_nf {k : Nat} {h l : Int} (hpq : (2 : Int) ^ k * 2 ^ (64 - k) = 18446744073709551616) (hl0 : 0 ≤ l) (hl : l < 2 ^ (64 - k)) : rotI (2 ^ (64 - k) * h + l) k = l * 2 ^ k + h := by
  have hp : (0 : Int) < 2 ^ k := Int.pow_pos (by decide)
  have hq : (0 : Int) < 2 ^ (64 - k) := Int.pow_pos (by decide)
  have e1 : (2 ^ (64 - k) * h + l) * 2 ^ k = l * 2 ^ k + 18446744073709551616 * h := by
    rw [← hpq, Int.add_mul, Int.mul_comm ((2 : Int) ^ k), Int.mul_right_comm, Int.add_comm]
  have hlt : l * 2 ^ k < 18446744073709551616 := by
    rw [← hpq, Int.mul_comm ((2 : Int) ^ k)]
    exact Int.mul_lt_mul_of_pos_right hl hp
  have h0 : 0 ≤ l * 2 ^ k := Int.mul_nonneg hl0 (Int.le_of_lt hp)
  have e2 : (2 ^ (64 - k) * h + l) / 2 ^ (64 - k) = h := by
    rw [Int.add_comm, Int.add_mul_ediv_left _ _ (Int.ne_of_gt hq), Int.ediv_eq_zero_of_lt hl0 hl, Int.zero_add]
  unfold rotI
  rw [e2, e1, Int.add_mul_emod_self_left, Int.emod_eq_of_lt h0 hlt]
theorem rot_step {x : Int} (hx : U64 x) {i : Nat} (hi : i < 32) : byS (rotI x i) = rotI x (i + 1) ∧ U64 (rotI x (i + 1)) := by
  obtain ⟨h0, h1⟩ := hx
  have hpq : ∀ k, k ≤ 64 → (2 : Int) ^ k * 2 ^ (64 - k) = 18446744073709551616 := fun k hk => by
    rw [← Int.pow_add, show k + (64 - k) = 64 by omega]; rfl
  have e64 : (2 : Int) ^ (64 - i) = 2 * 2 ^ (64 - (i + 1)) := by rw [← pow_two_step, show 64 - (i + 1) + 1 = 64 - i by omega]
  have hp : (0 : Int) < 2 ^ i := Int.pow_pos (by decide)
  have hq : (0 : Int) < 2 ^ (64 - (i + 1)) := Int.pow_pos (by decide)
  have n1 := rot_nf (k := i) (h := x / 2 ^ (64 - i)) (l := x % 2 ^ (64 - i)) (hpq i (by omega)) (Int.emod_nonneg _ (by omega)) (Int.emod_lt_of_pos _ (by omega))
  have n2 := rot_nf (k := i + 1) (h := x / 2 ^ (64 - (i + 1))) (l := x % 2 ^ (64 - (i + 1))) (hpq (i + 1) (by omega)) (Int.emod_nonneg _ (by omega)) (Int.emod_lt_of_pos _ (by omega))
  rw [Int.mul_ediv_add_emod] at n1 n2
  have hpq1 := hpq (i + 1) (by omega)
  rw [pow_two_step] at n2 hpq1
  rw [n1, n2]
  -- the halves
  have d1 := Int.mul_ediv_add_emod x (2 ^ (64 - i))
  have d2 := Int.mul_ediv_add_emod x (2 ^ (64 - (i + 1)))
  have r1 := Int.emod_nonneg x (show (2 : Int) ^ (64 - i) ≠ 0 by omega)
  have r2 := Int.emod_lt_of_pos x (show (0 : Int) < 2 ^ (64 - i) by omega)
  have r3 := Int.emod_nonneg x (show (2 : Int) ^ (64 - (i + 1)) ≠ 0 by omega)
  have r4 := Int.emod_lt_of_pos x hq
  have hh : x / 2 ^ (64 - (i + 1)) = 2 * (x / 2 ^ (64 - i)) + x % 2 ^ (64 - i) / 2 ^ (64 - (i + 1)) ∧ x % 2 ^ (64 - i) = 2 ^ (64 - (i + 1)) * (x % 2 ^ (64 - i) / 2 ^ (64 - (i + 1))) + x % 2 ^ (64 - (i + 1)) := by
    have e1 : x = x % 2 ^ (64 - i) + 2 ^ (64 - (i + 1)) * (2 * (x / 2 ^ (64 - i))) := by
      rw [← Int.mul_assoc, Int.mul_comm (2 ^ (64 - (i + 1))) 2, ← e64]; omega
    have e2 : x / 2 ^ (64 - (i + 1)) = x % 2 ^ (64 - i) / 2 ^ (64 - (i + 1)) + 2 * (x / 2 ^ (64 - i)) := by
      conv => lhs; rw [e1]
      rw [Int.add_mul_ediv_left _ _ (Int.ne_of_gt hq)]
    have e3 : x % 2 ^ (64 - (i + 1)) = x % 2 ^ (64 - i) % 2 ^ (64 - (i + 1)) := by
      conv => lhs; rw [e1]
      rw [Int.add_mul_emod_self_left]
    refine ⟨by omega, ?_⟩
    rw [e3, Int.mul_ediv_add_emod]
  obtain ⟨hh1, hh2⟩ := hh
  have hb0 : 0 ≤ x % 2 ^ (64 - i) / 2 ^ (64 - (i + 1)) := Int.ediv_nonneg r1 (Int.le_of_lt hq)
  have hb1 : x % 2 ^ (64 - i) / 2 ^ (64 - (i + 1)) < 2 := Int.ediv_lt_of_lt_mul hq (by omega)
  have hh0 : 0 ≤ x / 2 ^ (64 - i) := Int.ediv_nonneg h0 (by omega)
  have hhl : x / 2 ^ (64 - i) < 2 ^ i := by
    refine Int.ediv_lt_of_lt_mul (by omega) ?_
    rw [hpq i (by omega)]; exact h1
  generalize hA : x / 2 ^ (64 - i) = A at *
  generalize hB : x % 2 ^ (64 - i) / 2 ^ (64 - (i + 1)) = B at *
  generalize hC : x % 2 ^ (64 - (i + 1)) = C at *
  rw [hh1, hh2]
  generalize hP : (2 : Int) ^ i = P at *
  generalize hQ : (2 : Int) ^ (64 - (i + 1)) = Q at *
  have hPQ : Q * P = 9223372036854775808 := by
    rw [Int.mul_assoc, Int.mul_comm P Q] at hpq1; omega
  have em : (Q * B + C) * P = 9223372036854775808 * B + C * P := by
    rw [Int.add_mul, Int.mul_right_comm, hPQ]
  have hm : C * P + P ≤ 9223372036854775808 := by
    have : (C + 1) * P ≤ Q * P := Int.mul_le_mul_of_nonneg_right (by omega) (by omega)
    rw [Int.add_mul, Int.one_mul, hPQ] at this; exact this
  have hm0 : 0 ≤ C * P := Int.mul_nonneg r3 (by omega)
  have em2 : C * (2 * P) = 2 * (C * P) := by rw [← Int.mul_assoc, Int.mul_comm C 2, Int.mul_assoc]
  rw [em, em2]
  obtain ⟨M, hM⟩ : ∃ M, M = C * P := ⟨_, rfl⟩
  rw [← hM] at hm hm0 ⊢
  clear hM em em2 hh1 hh2 hpq1 hPQ n1 n2
  unfold byS U64
  rw [w64_eq, w64_eq, w64_eq, Int.tdiv_eq_ediv_of_nonneg (by omega)]
  have s1 : (9223372036854775808 * B + M + A) / 9223372036854775808 = B := by omega
  have s2 : (9223372036854775808 * B + M + A) * 2 % 18446744073709551616 = 2 * M + 2 * A := by
    have hB2 : B = 0 ∨ B = 1 := by omega
    rcases hB2 with h | h <;> rw [h] <;> omega
  rw [s1, s2]
  have s3 : B % 18446744073709551616 = B := by omega
  rw [s3]
  have s4 : 0 ≤ 2 * M + 2 * A + B ∧ 2 * M + 2 * A + B < 18446744073709551616 := by omega
  rw [Int.emod_eq_of_lt s4.1 s4.2]
  omega
theorem rotI_zero (x : Int) (hx : U64 x) : rotI x 0 = x := by
  obtain ⟨h0, h1⟩ := hx
  unfold rotI
  simp only [Int.reducePow, Nat.reduceSub]
  omega
/-- The two halves of a number that is turned. -/
theorem rot_or {x : Int} (hx : U64 x) {k : Nat} (hk : k < 33) : orI (w64 (x * 2 ^ k)) (x.fdiv (2 ^ (64 - k))) = rotI x k := by
  obtain ⟨h0, h1⟩ := hx
  have hpp : (2 : Int) ^ (64 - k) * 2 ^ k = 18446744073709551616 := by
    rw [← Int.pow_add, show 64 - k + k = 64 by omega]; rfl
  have hp : (0 : Int) < 2 ^ k := Int.pow_pos (by decide)
  have hq : (0 : Int) < 2 ^ (64 - k) := Int.pow_pos (by decide)
  have e1 : w64 (x * 2 ^ k) = x % 2 ^ (64 - k) * 2 ^ k := by
    have e0 : x * 2 ^ k = x % 2 ^ (64 - k) * 2 ^ k + 18446744073709551616 * (x / 2 ^ (64 - k)) := by
      conv => lhs; rw [← Int.mul_ediv_add_emod x (2 ^ (64 - k))]
      rw [← hpp, Int.add_mul, Int.mul_right_comm, Int.add_comm]
    rw [w64_eq, e0, Int.add_mul_emod_self_left]
    refine Int.emod_eq_of_lt (Int.mul_nonneg (Int.emod_nonneg _ (Int.ne_of_gt hq)) (Int.le_of_lt hp)) ?_
    rw [← hpp]
    exact Int.mul_lt_mul_of_pos_right (Int.emod_lt_of_pos _ hq) hp
  have e2 : x.fdiv (2 ^ (64 - k)) = x / 2 ^ (64 - k) := Int.fdiv_eq_ediv_of_nonneg _ (Int.le_of_lt hq)
  have hd0 : 0 ≤ x / 2 ^ (64 - k) := Int.ediv_nonneg h0 (Int.le_of_lt hq)
  have hdl : x / 2 ^ (64 - k) < 2 ^ k := by
    refine Int.ediv_lt_of_lt_mul hq ?_
    rw [Int.mul_comm, hpp]; exact h1
  have hm0 : 0 ≤ x % 2 ^ (64 - k) := Int.emod_nonneg _ (Int.ne_of_gt hq)
  have hml : x % 2 ^ (64 - k) * 2 ^ k < 18446744073709551616 := by
    rw [← hpp]
    exact Int.mul_lt_mul_of_pos_right (Int.emod_lt_of_pos _ hq) hp
  have hk2 : (2 : Int) ^ k ≤ 18446744073709551616 := by
    rw [← hpp]
    have : (1 : Int) ≤ 2 ^ (64 - k) := hq
    have := Int.mul_le_mul_of_nonneg_right this (Int.le_of_lt hp)
    rwa [Int.one_mul] at this
  unfold rotI
  rw [e1, e2, (or_apart (k := k) hd0 (by omega) hdl hm0 hml).2]
  have : x * 2 ^ k % 18446744073709551616 = x % 2 ^ (64 - k) * 2 ^ k := by rw [← w64_eq]; exact e1
  rw [this]; omega
theorem rotI_in {x : Int} (hx : U64 x) : ∀ {k : Nat}, k < 33 → U64 (rotI x k)
  | 0, _ => by rw [rotI_zero x hx]; exact hx
  | k + 1, h => (rot_step hx (by omega)).2

/-- The four numbers. -/
structure S4 where
  a : Int
  b : Int
  c : Int
  d : Int
def S4.ok (s : S4) : Prop := U64 s.a ∧ U64 s.b ∧ U64 s.c ∧ U64 s.d
def rnd (s : S4) : S4 :=
  let a1 := w64 (s.a + s.b)
  let b1 := xorI (rotI s.b 13) a1
  let a2 := rotI a1 32
  let c1 := w64 (s.c + s.d)
  let d1 := xorI (rotI s.d 16) c1
  let a3 := w64 (a2 + d1)
  let d2 := xorI (rotI d1 21) a3
  let c2 := w64 (c1 + b1)
  let b2 := xorI (rotI b1 17) c2
  let c3 := rotI c2 32
  ⟨a3, b2, c3, d2⟩
theorem rnd_ok (s : S4) : (rnd s).ok := ⟨w64_in _, xorI_in _ _, rotI_in (w64_in _) (by decide), xorI_in _ _⟩
def rnds : Nat → S4 → S4
  | 0, s => s
  | n + 1, s => rnd (rnds n s)
theorem rnds_ok {s : S4} (h : s.ok) : ∀ n, (rnds n s).ok
  | 0 => h
  | n + 1 => rnd_ok _
def S4.take (s : S4) (n : Int) : S4 :=
  let s2 := rnds 2 ⟨s.a, s.b, s.c, xorI s.d n⟩
  ⟨xorI s2.a n, s2.b, s2.c, s2.d⟩
theorem take_ok (s : S4) (n : Int) : (s.take n).ok := by
  have : (rnds 2 ⟨s.a, s.b, s.c, xorI s.d n⟩).ok := rnd_ok _
  exact ⟨xorI_in _ _, this.2.1, this.2.2.1, this.2.2.2⟩

/-- Bytes as a number, the lowest first. -/
def leI : List Int → Int
  | [] => 0
  | x :: r => x + 256 * leI r
theorem leI_snoc : ∀ (l : List Int) (x : Int), leI (l ++ [x]) = leI l + x * 256 ^ l.length
  | [], x => by simp [leI]
  | y :: r, x => by
    rw [List.cons_append, leI, leI, leI_snoc r x, List.length_cons, Int.pow_succ, Int.mul_add]
    have : 256 * (x * 256 ^ r.length) = x * (256 ^ r.length * 256) := by
      rw [← Int.mul_assoc, Int.mul_comm 256 x, Int.mul_assoc, Int.mul_comm 256]
    rw [this]; omega
theorem leI_in : ∀ {l : List Int}, (∀ x, x ∈ l → 0 ≤ x ∧ x < 256) → 0 ≤ leI l ∧ leI l < 256 ^ l.length
  | [], _ => by simp [leI]
  | y :: r, h => by
    have ih := leI_in fun x hx => h x (.tail _ hx)
    have := h y (.head _)
    rw [leI, List.length_cons, Int.pow_succ]
    omega
/-- A flow's bytes, of sixteen words. -/
def be4 (n : Int) : List Int := [n / 16777216 % 256, n / 65536 % 256, n / 256 % 256, n % 256]
def be2 (n : Int) : List Int := [n / 256 % 256, n % 256]
def sumS (lo hi : Int) (w0 w1 : Int) : Int :=
  let s0 : S4 := ⟨xorI lo 8317987319222330741, xorI hi 7237128888997146477, xorI lo 7816392313619706465, xorI hi 8387220255154660723⟩
  let s2 := (s0.take w0).take w1
  let s4 := rnds 4 ⟨s2.a, s2.b, xorI s2.c 255, s2.d⟩
  xorI (xorI (xorI s4.a s4.b) s4.c) s4.d
end Go.Proofs.Ytcbpdjikdohegaa.V
