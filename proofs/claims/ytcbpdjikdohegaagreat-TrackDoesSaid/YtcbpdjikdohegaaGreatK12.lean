/-
  The sum of bytes by a key, by value. No condition.
  The program's sum of bytes by a key. Conditions: numbers are ones of 64 bits.
  The program's sum of thirteen bytes by a key, and modulo a number; a flow's bytes. Conditions: numbers are ones of their kinds.
-/
import Derived.Test.YtcbpdjikdohegaaGreatK1
import Derived.Laws.Bits64
import Derived.Laws.BitsLemmas
namespace Go.Proofs.YtcbpdjikdohegaaGreat.V

abbrev w64 (n : Int) : Int := IntKind.u64.wrap n
def U64 (n : Int) : Prop := 0 ≤ n ∧ n < 18446744073709551616
theorem w64_eq (n : Int) : w64 n = n % 18446744073709551616 := IntKind.wrap_u64 n
theorem w64_in (n : Int) : U64 (w64 n) := by unfold U64; rw [w64_eq]; omega
theorem w64_id {n : Int} (h : U64 n) : w64 n = n := by unfold U64 at h; rw [w64_eq]; omega
def xorI (a b : Int) : Int := w64 ((BitVec.ofInt IntKind.u64.bits a ^^^ BitVec.ofInt IntKind.u64.bits b).toNat)
def orI (a b : Int) : Int := w64 ((BitVec.ofInt IntKind.u64.bits a ||| BitVec.ofInt IntKind.u64.bits b).toNat)
theorem xorI_in (a b : Int) : U64 (xorI a b) := w64_in _
theorem or_nat {a b : Nat} (ha : a < 18446744073709551616) (hb : b < 18446744073709551616) : orI a b = ((a ||| b : Nat) : Int) := by
  have e : ∀ n : Nat, n < 18446744073709551616 → (BitVec.ofInt IntKind.u64.bits (n : Int)).toNat = n := fun n hn => by
    show (BitVec.ofInt 64 (n : Int)).toNat = n
    rw [BitVec.toNat_ofInt]
    omega
  unfold orI
  rw [BitVec.toNat_or, e a ha, e b hb]
  have key : ∀ n : Nat, 2 ^ n = 18446744073709551616 → a ||| b < 18446744073709551616 := fun n hn => by
    rw [← hn] at ha hb ⊢
    exact Nat.or_lt_two_pow ha hb
  have := key 64 (by simp only [Nat.reducePow])
  exact w64_id ⟨by omega, by omega⟩
theorem or_apart {a x : Int} {k : Nat} (ha : 0 ≤ a) (ha2 : a < 18446744073709551616) (hak : a < 2 ^ k) (hx : 0 ≤ x) (hxk : x * 2 ^ k < 18446744073709551616) : orI a (x * 2 ^ k) = a + x * 2 ^ k ∧ orI (x * 2 ^ k) a = a + x * 2 ^ k := by
  obtain ⟨n, rfl⟩ := Int.eq_ofNat_of_zero_le ha
  obtain ⟨m, rfl⟩ := Int.eq_ofNat_of_zero_le hx
  have hc : ((2 ^ k : Nat) : Int) = 2 ^ k := by rw [Int.natCast_pow]; rfl
  have hn : n < 2 ^ k := by rw [← hc] at hak; exact Int.ofNat_lt.1 hak
  rw [← hc, ← Int.natCast_mul] at hxk ⊢
  have hm : m * 2 ^ k < 18446744073709551616 := by omega
  by_cases hm0 : m = 0
  · subst hm0
    have hz : ∀ n : Nat, n < 18446744073709551616 → orI n ((0 * 2 ^ k : Nat) : Int) = n ∧ orI ((0 * 2 ^ k : Nat) : Int) n = n := fun n hn => by
      rw [Nat.zero_mul]
      exact ⟨by rw [or_nat hn (by decide), Nat.or_zero], by rw [or_nat (by decide) hn, Nat.zero_or]⟩
    obtain ⟨h1, h2⟩ := hz n (by omega)
    rw [h1, h2, Nat.zero_mul]; exact ⟨by simp, by simp⟩
  · have hle : 2 ^ k ≤ m * 2 ^ k := Nat.le_mul_of_pos_left _ (Nat.pos_of_ne_zero hm0)
    have e : m * 2 ^ k ||| n = m * 2 ^ k + n := by
      have := Nat.shiftLeft_add_eq_or_of_lt hn m
      rw [Nat.shiftLeft_eq] at this
      exact this.symm
    rw [or_nat (by omega) hm, or_nat hm (by omega), Nat.or_comm, e]
    omega
def rotI (x : Int) (k : Nat) : Int := x * 2 ^ k % 18446744073709551616 + x / 2 ^ (64 - k)
def byS (x : Int) : Int := w64 (w64 (x * 2) + w64 (x.tdiv 9223372036854775808))
theorem pow_two_step (k : Nat) : (2 : Int) ^ (k + 1) = 2 * 2 ^ k := by rw [Int.pow_succ, Int.mul_comm]
theorem rot_nf {k : Nat} {h l : Int} (hpq : (2 : Int) ^ k * 2 ^ (64 - k) = 18446744073709551616) (hl0 : 0 ≤ l) (hl : l < 2 ^ (64 - k)) : rotI (2 ^ (64 - k) * h + l) k = l * 2 ^ k + h := by
  have hp : (0 : Int) < 2 ^ k := Int.pow_pos (by decide)
  have hq : (0 : Int) < 2 ^ (64 - k) := Int.pow_pos (by decide)
  have e1 : (2 ^ (64 - k) * h + l) * 2 ^ k = l * 2 ^ k + 18446744073709551616 * h := by
    rw [← hpq, Int.add_mul, Int.mul_comm ((2 : Int) ^ k), Int.mul_right_comm, Int.add_comm]
  have hlt : l * 2 ^ k < 18446744073709551616 := by
    rw [← hpq, Int.mul_comm ((2 : Int) ^ k)]
    exact Int.mul_lt_mul_of_pos_right hl hp
  have h0 : 0 ≤ l * 2 ^ k := Int.mul_nonneg hl0 (Int.le_of_lt hp)
  have e2 : (2 ^ (64 - k) * h + l) / 2 ^ (64 - k) = h := by
    rw [Int.add_comm, Int.add_mul_ediv_left _ _ (Int.ne_of_gt hq), Int.ediv_eq_zero_of_lt hl0 hl, Int.zero_add]
  unfold rotI
  rw [e2, e1, Int.add_mul_emod_self_left, Int.emod_eq_of_lt h0 hlt]
theorem rot_step {x : Int} (hx : U64 x) {i : Nat} (hi : i < 32) : byS (rotI x i) = rotI x (i + 1) ∧ U64 (rotI x (i + 1)) := by
  obtain ⟨h0, h1⟩ := hx
  have hpq : ∀ k, k ≤ 64 → (2 : Int) ^ k * 2 ^ (64 - k) = 18446744073709551616 := fun k hk => by
    rw [← Int.pow_add, show k + (64 - k) = 64 by omega]; rfl
  have e64 : (2 : Int) ^ (64 - i) = 2 * 2 ^ (64 - (i + 1)) := by rw [← pow_two_step, show 64 - (i + 1) + 1 = 64 - i by omega]
  have hp : (0 : Int) < 2 ^ i := Int.pow_pos (by decide)
  have hq : (0 : Int) < 2 ^ (64 - (i + 1)) := Int.pow_pos (by decide)
  have n1 := rot_nf (k := i) (h := x / 2 ^ (64 - i)) (l := x % 2 ^ (64 - i)) (hpq i (by omega)) (Int.emod_nonneg _ (by omega)) (Int.emod_lt_of_pos _ (by omega))
  have n2 := rot_nf (k := i + 1) (h := x / 2 ^ (64 - (i + 1))) (l := x % 2 ^ (64 - (i + 1))) (hpq (i + 1) (by omega)) (Int.emod_nonneg _ (by omega)) (Int.emod_lt_of_pos _ (by omega))
  rw [Int.mul_ediv_add_emod] at n1 n2
  have hpq1 := hpq (i + 1) (by omega)
  rw [pow_two_step] at n2 hpq1
  rw [n1, n2]
  -- the halves
  have d1 := Int.mul_ediv_add_emod x (2 ^ (64 - i))
  have d2 := Int.mul_ediv_add_emod x (2 ^ (64 - (i + 1)))
  have r1 := Int.emod_nonneg x (show (2 : Int) ^ (64 - i) ≠ 0 by omega)
  have r2 := Int.emod_lt_of_pos x (show (0 : Int) < 2 ^ (64 - i) by omega)
  have r3 := Int.emod_nonneg x (show (2 : Int) ^ (64 - (i + 1)) ≠ 0 by omega)
  have r4 := Int.emod_lt_of_pos x hq
  have hh : x / 2 ^ (64 - (i + 1)) = 2 * (x / 2 ^ (64 - i)) + x % 2 ^ (64 - i) / 2 ^ (64 - (i + 1)) ∧ x % 2 ^ (64 - i) = 2 ^ (64 - (i + 1)) * (x % 2 ^ (64 - i) / 2 ^ (64 - (i + 1))) + x % 2 ^ (64 - (i + 1)) := by
    have e1 : x = x % 2 ^ (64 - i) + 2 ^ (64 - (i + 1)) * (2 * (x / 2 ^ (64 - i))) := by
      rw [← Int.mul_assoc, Int.mul_comm (2 ^ (64 - (i + 1))) 2, ← e64]; omega
    have e2 : x / 2 ^ (64 - (i + 1)) = x % 2 ^ (64 - i) / 2 ^ (64 - (i + 1)) + 2 * (x / 2 ^ (64 - i)) := by
      conv => lhs; rw [e1]
      rw [Int.add_mul_ediv_left _ _ (Int.ne_of_gt hq)]
    have e3 : x % 2 ^ (64 - (i + 1)) = x % 2 ^ (64 - i) % 2 ^ (64 - (i + 1)) := by
      conv => lhs; rw [e1]
      rw [Int.add_mul_emod_self_left]
    refine ⟨by omega, ?_⟩
    rw [e3, Int.mul_ediv_add_emod]
  obtain ⟨hh1, hh2⟩ := hh
  have hb0 : 0 ≤ x % 2 ^ (64 - i) / 2 ^ (64 - (i + 1)) := Int.ediv_nonneg r1 (Int.le_of_lt hq)
  have hb1 : x % 2 ^ (64 - i) / 2 ^ (64 - (i + 1)) < 2 := Int.ediv_lt_of_lt_mul hq (by omega)
  have hh0 : 0 ≤ x / 2 ^ (64 - i) := Int.ediv_nonneg h0 (by omega)
  have hhl : x / 2 ^ (64 - i) < 2 ^ i := by
    refine Int.ediv_lt_of_lt_mul (by omega) ?_
    rw [hpq i (by omega)]; exact h1
  generalize hA : x / 2 ^ (64 - i) = A at *
  generalize hB : x % 2 ^ (64 - i) / 2 ^ (64 - (i + 1)) = B at *
  generalize hC : x % 2 ^ (64 - (i + 1)) = C at *
  rw [hh1, hh2]
  generalize hP : (2 : Int) ^ i = P at *
  generalize hQ : (2 : Int) ^ (64 - (i + 1)) = Q at *
  have hPQ : Q * P = 9223372036854775808 := by
    rw [Int.mul_assoc, Int.mul_comm P Q] at hpq1; omega
  have em : (Q * B + C) * P = 9223372036854775808 * B + C * P := by
    rw [Int.add_mul, Int.mul_right_comm, hPQ]
  have hm : C * P + P ≤ 9223372036854775808 := by
    have : (C + 1) * P ≤ Q * P := Int.mul_le_mul_of_nonneg_right (by omega) (by omega)
    rw [Int.add_mul, Int.one_mul, hPQ] at this; exact this
  have hm0 : 0 ≤ C * P := Int.mul_nonneg r3 (by omega)
  have em2 : C * (2 * P) = 2 * (C * P) := by rw [← Int.mul_assoc, Int.mul_comm C 2, Int.mul_assoc]
  rw [em, em2]
  obtain ⟨M, hM⟩ : ∃ M, M = C * P := ⟨_, rfl⟩
  rw [← hM] at hm hm0 ⊢
  clear hM em em2 hh1 hh2 hpq1 hPQ n1 n2
  unfold byS U64
  rw [w64_eq, w64_eq, w64_eq, Int.tdiv_eq_ediv_of_nonneg (by omega)]
  have s1 : (9223372036854775808 * B + M + A) / 9223372036854775808 = B := by omega
  have s2 : (9223372036854775808 * B + M + A) * 2 % 18446744073709551616 = 2 * M + 2 * A := by
    have hB2 : B = 0 ∨ B = 1 := by omega
    rcases hB2 with h | h <;> rw [h] <;> omega
  rw [s1, s2]
  have s3 : B % 18446744073709551616 = B := by omega
  rw [s3]
  have s4 : 0 ≤ 2 * M + 2 * A + B ∧ 2 * M + 2 * A + B < 18446744073709551616 := by omega
  rw [Int.emod_eq_of_lt s4.1 s4.2]
  omega
theorem rotI_zero (x : Int) (hx : U64 x) : rotI x 0 = x := by
  obtain ⟨h0, h1⟩ := hx
  unfold rotI
  simp only [Int.reducePow, Nat.reduceSub]
  omega
theorem rot_or {x : Int} (hx : U64 x) {k : Nat} (hk : k < 33) : orI (w64 (x * 2 ^ k)) (x.fdiv (2 ^ (64 - k))) = rotI x k := by
  obtain ⟨h0, h1⟩ := hx
  have hpp : (2 : Int) ^ (64 - k) * 2 ^ k = 18446744073709551616 := by
    rw [← Int.pow_add, show 64 - k + k = 64 by omega]; rfl
  have hp : (0 : Int) < 2 ^ k := Int.pow_pos (by decide)
  have hq : (0 : Int) < 2 ^ (64 - k) := Int.pow_pos (by decide)
  have e1 : w64 (x * 2 ^ k) = x % 2 ^ (64 - k) * 2 ^ k := by
    have e0 : x * 2 ^ k = x % 2 ^ (64 - k) * 2 ^ k + 18446744073709551616 * (x / 2 ^ (64 - k)) := by
      conv => lhs; rw [← Int.mul_ediv_add_emod x (2 ^ (64 - k))]
      rw [← hpp, Int.add_mul, Int.mul_right_comm, Int.add_comm]
    rw [w64_eq, e0, Int.add_mul_emod_self_left]
    refine Int.emod_eq_of_lt (Int.mul_nonneg (Int.emod_nonneg _ (Int.ne_of_gt hq)) (Int.le_of_lt hp)) ?_
    rw [← hpp]
    exact Int.mul_lt_mul_of_pos_right (Int.emod_lt_of_pos _ hq) hp
  have e2 : x.fdiv (2 ^ (64 - k)) = x / 2 ^ (64 - k) := Int.fdiv_eq_ediv_of_nonneg _ (Int.le_of_lt hq)
  have hd0 : 0 ≤ x / 2 ^ (64 - k) := Int.ediv_nonneg h0 (Int.le_of_lt hq)
  have hdl : x / 2 ^ (64 - k) < 2 ^ k := by
    refine Int.ediv_lt_of_lt_mul hq ?_
    rw [Int.mul_comm, hpp]; exact h1
  have hm0 : 0 ≤ x % 2 ^ (64 - k) := Int.emod_nonneg _ (Int.ne_of_gt hq)
  have hml : x % 2 ^ (64 - k) * 2 ^ k < 18446744073709551616 := by
    rw [← hpp]
    exact Int.mul_lt_mul_of_pos_right (Int.emod_lt_of_pos _ hq) hp
  have hk2 : (2 : Int) ^ k ≤ 18446744073709551616 := by
    rw [← hpp]
    have : (1 : Int) ≤ 2 ^ (64 - k) := hq
    have := Int.mul_le_mul_of_nonneg_right this (Int.le_of_lt hp)
    rwa [Int.one_mul] at this
  unfold rotI
  rw [e1, e2, (or_apart (k := k) hd0 (by omega) hdl hm0 hml).2]
  have : x * 2 ^ k % 18446744073709551616 = x % 2 ^ (64 - k) * 2 ^ k := by rw [← w64_eq]; exact e1
  rw [this]; omega
theorem rotI_in {x : Int} (hx : U64 x) : ∀ {k : Nat}, k < 33 → U64 (rotI x k)
  | 0, _ => by rw [rotI_zero x hx]; exact hx
  | k + 1, h => (rot_step hx (by omega)).2

structure S4 where
  a : Int
  b : Int
  c : Int
  d : Int
def S4.ok (s : S4) : Prop := U64 s.a ∧ U64 s.b ∧ U64 s.c ∧ U64 s.d
def rnd (s : S4) : S4 :=
  let a1 := w64 (s.a + s.b)
  let b1 := xorI (rotI s.b 13) a1
  let a2 := rotI a1 32
  let c1 := w64 (s.c + s.d)
  let d1 := xorI (rotI s.d 16) c1
  let a3 := w64 (a2 + d1)
  let d2 := xorI (rotI d1 21) a3
  let c2 := w64 (c1 + b1)
  let b2 := xorI (rotI b1 17) c2
  let c3 := rotI c2 32
  ⟨a3, b2, c3, d2⟩
theorem rnd_ok (s : S4) : (rnd s).ok := ⟨w64_in _, xorI_in _ _, rotI_in (w64_in _) (by decide), xorI_in _ _⟩
def rnds : Nat → S4 → S4
  | 0, s => s
  | n + 1, s => rnd (rnds n s)
theorem rnds_ok {s : S4} (h : s.ok) : ∀ n, (rnds n s).ok
  | 0 => h
  | n + 1 => rnd_ok _
def S4.take (s : S4) (n : Int) : S4 :=
  let s2 := rnds 2 ⟨s.a, s.b, s.c, xorI s.d n⟩
  ⟨xorI s2.a n, s2.b, s2.c, s2.d⟩
theorem take_ok (s : S4) (n : Int) : (s.take n).ok := by
  have : (rnds 2 ⟨s.a, s.b, s.c, xorI s.d n⟩).ok := rnd_ok _
  exact ⟨xorI_in _ _, this.2.1, this.2.2.1, this.2.2.2⟩

def leI : List Int → Int
  | [] => 0
  | x :: r => x + 256 * leI r
theorem leI_snoc : ∀ (l : List Int) (x : Int), leI (l ++ [x]) = leI l + x * 256 ^ l.length
  | [], x => by simp [leI]
  | y :: r, x => by
    rw [List.cons_append, leI, leI, leI_snoc r x, List.length_cons, Int.pow_succ, Int.mul_add]
    have : 256 * (x * 256 ^ r.length) = x * (256 ^ r.length * 256) := by
      rw [← Int.mul_assoc, Int.mul_comm 256 x, Int.mul_assoc, Int.mul_comm 256]
    rw [this]; omega
theorem leI_in : ∀ {l : List Int}, (∀ x, x ∈ l → 0 ≤ x ∧ x < 256) → 0 ≤ leI l ∧ leI l < 256 ^ l.length
  | [], _ => by simp [leI]
  | y :: r, h => by
    have ih := leI_in fun x hx => h x (.tail _ hx)
    have := h y (.head _)
    rw [leI, List.length_cons, Int.pow_succ]
    omega
def be4 (n : Int) : List Int := [n / 16777216 % 256, n / 65536 % 256, n / 256 % 256, n % 256]
def be2 (n : Int) : List Int := [n / 256 % 256, n % 256]
def sumS (lo hi : Int) (w0 w1 : Int) : Int :=
  let s0 : S4 := ⟨xorI lo 8317987319222330741, xorI hi 7237128888997146477, xorI lo 7816392313619706465, xorI hi 8387220255154660723⟩
  let s2 := (s0.take w0).take w1
  let s4 := rnds 4 ⟨s2.a, s2.b, xorI s2.c 255, s2.d⟩
  xorI (xorI (xorI s4.a s4.b) s4.c) s4.d
end Go.Proofs.YtcbpdjikdohegaaGreat.V
namespace Go.Proofs.YtcbpdjikdohegaaGreat.V
open Go.RowKit
attribute [local irreducible] Fn FnN OpVC Ob

abbrev u64D (n : Int) : D := .v (.int .u64 n)
theorem rotl_fn {x : Int} (hx : U64 x) (k : Nat) (hk : k = 13 ∨ k = 16 ∨ k = 17 ∨ k = 21 ∨ k = 32) : Fn Tryz.prog 106 [u64D x, intD k] fun d => d = u64D (rotI x k) := by
  refine fnOf [] Tryz.func106 rfl (by kernel_rfl) (Nat.le_of_ble_eq_true rfl) ?_
  have h := rot_or hx (k := k) (by omega)
  have hm : IntKind.u64.wrap ((BitVec.ofInt IntKind.u64.bits (IntKind.u64.wrap (k : Int)) &&& BitVec.ofInt IntKind.u64.bits 63).toNat : Int) = (k : Int) := by
    rcases hk with rfl | rfl | rfl | rfl | rfl <;> kernel_rfl
  have hs : IntKind.u64.wrap (64 - (k : Int)) = ((64 - k : Nat) : Int) := by rw [IntKind.wrap_u64]; omega
  have e1 : min (k : Int).toNat IntKind.u64.bits = k := by show min (k : Int).toNat 64 = k; omega
  have e2 : min ((64 - k : Nat) : Int).toNat IntKind.u64.bits = 64 - k := by show min _ 64 = 64 - k; omega
  conv => whnf
  rw [hm]
  refine ⟨by omega, ?_⟩
  rw [e1]
  conv => whnf
  rw [hs]
  refine ⟨by omega, ?_⟩
  rw [e2]
  conv => whnf
  exact congrArg u64D h

def s4D (s : S4) : List D := [u64D s.a, u64D s.b, u64D s.c, u64D s.d]
theorem round_ob (s : S4) (hs : s.ok) (n : Nat) (hn : n ≤ 4) : Ob Tryz.prog 102 142 (s4D s) [intD n] fun d X' => d = .tup [] ∧ X' = s4D (rnds n s) := by
  refine obOf [(3, [0, 1, 2, 3, 4, 6, 7, 8, 9, 5, 10, 11, 12, 13]), (6, [0, 1, 2, 3, 4, 6, 7, 8, 9, 5, 10, 11, 12, 13]), (8, [0, 1, 2, 3, 4, 6, 7, 8, 9, 5, 10, 11, 12, 13]), (10, [0, 1, 2, 3, 4, 6, 7, 8, 9, 5, 10, 11, 12, 13])] Tryz.func102 rfl (by kernel_rfl) (Nat.le_of_ble_eq_true rfl) ?_
  conv => whnf
  refine ⟨Nat, fun i => ⟨[(5, intD i), (4, intD n), (0, .loc 0 0)], [(0, .cells 142 (s4D (rnds i s)))], 1, ([0], 1)⟩, fun i => i ≤ n, fun i => n - i, ⟨0, [], [], ?_, Nat.zero_le _⟩, ?_⟩
  · repeat' (first | exact trivial | exact .inl (DLe.refl _) | exact .inl (DLe.nil _ _) | (refine .inr ⟨rfl, _, ?_, rfl⟩; rfl) | exact rfl | exact Nat.zero_le _ | constructor)
  · intro i hi
    replace hi : i ≤ n := hi
    have hok := rnds_ok hs i
    obtain ⟨ha, hb, hc, hd⟩ := hok
    have hstep : rnds (i + 1) s = rnd (rnds i s) := rfl
    conv => whnf
    cases g1 : decide ((i : Int) < n) with
    | true =>
      have hlt : i < n := by have := of_decide_eq_true g1; omega
      conv => whnf
      refine CallVC.pure (rotl_fn hb 13 (.inl rfl)) rfl ?_
      rintro _ rfl
      conv => whnf
      refine CallVC.pure (rotl_fn (w64_in _) 32 (by omega)) rfl ?_
      rintro _ rfl
      conv => whnf
      refine CallVC.pure (rotl_fn hd 16 (by omega)) rfl ?_
      rintro _ rfl
      conv => whnf
      refine CallVC.pure (rotl_fn (xorI_in _ _) 21 (by omega)) rfl ?_
      rintro _ rfl
      conv => whnf
      refine CallVC.pure (rotl_fn (xorI_in _ _) 17 (by omega)) rfl ?_
      rintro _ rfl
      conv => whnf
      refine CallVC.pure (rotl_fn (w64_in _) 32 (by omega)) rfl ?_
      rintro _ rfl
      conv => whnf
      rw [show IntKind.i64.wrap ((i : Int) + 1) = ((i + 1 : Nat) : Int) from wrap_next (show i < 100 by omega) (by omega)]
      refine ⟨i + 1, [], [], ?_, hlt, by show n - (i + 1) < n - i; omega⟩
      dsimp only
      rw [hstep]
      repeat' (first | exact trivial | exact .inl (DLe.refl _) | exact .inl (DLe.nil _ _) | (refine .inr ⟨rfl, _, ?_, rfl⟩; rfl) | exact rfl | exact Nat.zero_le _ | constructor)
    | false =>
      have hin : i = n := by have := of_decide_eq_false g1; omega
      conv => whnf
      rw [hin]
      exact ⟨rfl, rfl⟩

theorem take_ob (s : S4) (hs : s.ok) (n : Int) : Ob Tryz.prog 100 142 (s4D s) [u64D n] fun d X' => d = .tup [] ∧ X' = s4D (s.take n) := by
  refine obOf [] Tryz.func100 rfl (by kernel_rfl) (Nat.le_of_ble_eq_true rfl) ?_
  conv => whnf
  refine CallVC.ob (round_ob ⟨s.a, s.b, s.c, xorI s.d n⟩ ⟨hs.1, hs.2.1, hs.2.2.1, xorI_in _ _⟩ 2 (by decide)) rfl rfl rfl ?_
  rintro _ _ ⟨rfl, rfl⟩
  conv => whnf
  exact ⟨rfl, rfl⟩

abbrev byD (x : Int) : List D := [.v (.int .u8 x)]
abbrev rowsB (L : List Int) : D := .rows Int 1 byD L
def Bytes (L : List Int) : Prop := ∀ x, x ∈ L → 0 ≤ x ∧ x < 256
theorem word_fn (L : List Int) (hL : Bytes L) (hl : L.length ≤ 8) : Fn Tryz.prog 101 [rowsB L] fun d => d = u64D (leI L) := by
  refine fnOf [] Tryz.func101 rfl (by kernel_rfl) (Nat.le_of_ble_eq_true rfl) ?_
  conv => whnf
  refine ⟨Nat, fun k => ⟨[(8, intD k), (7, intD L.length), (6, rowsB L), (3, u64D (leI (L.take k)))], [], 0, ([], 0)⟩, fun k => k ≤ L.length, fun k => L.length - k, ⟨0, [], [], ?_, Nat.zero_le _⟩, ?_⟩
  · repeat' (first | exact trivial | exact .inl (DLe.refl _) | exact .inl (DLe.nil _ _) | (refine .inr ⟨rfl, _, ?_, rfl⟩; rfl) | exact rfl | exact Nat.zero_le _ | constructor)
  · intro k hk
    replace hk : k ≤ L.length := hk
    conv => whnf
    cases g1 : decide ((k : Int) < L.length) with
    | true =>
      have hlt : k < L.length := by have := of_decide_eq_true g1; omega
      conv => whnf
      refine ⟨rfl, ⟨by omega, by omega⟩, fun x hx => ?_⟩
      have hxk : L[k]? = some x := by simpa using hx
      obtain ⟨hx0, hx1⟩ := hL x (List.mem_of_getElem? hxk)
      have e8 : IntKind.i64.wrap (8 * (k : Int)) = ((8 * k : Nat) : Int) := by rw [IntWalk.i64_in _ (by omega)]; omega
      have ec : IntKind.u64.wrap x = x := w64_id ⟨by omega, by omega⟩
      have etk : L.take (k + 1) = L.take k ++ [x] := by rw [List.take_add_one, hxk]; rfl
      have hbk : 0 ≤ leI (L.take k) ∧ leI (L.take k) < 256 ^ (L.take k).length := leI_in fun y hy => hL y (List.mem_of_mem_take hy)
      have hlk : (L.take k).length = k := by rw [List.length_take]; omega
      rw [hlk] at hbk
      have hpw : (256 : Int) ^ k = 2 ^ (8 * k) := by rw [Int.pow_mul]; rfl
      have hk7 : k ≤ 7 := by omega
      have h64 : x * 2 ^ (8 * k) < 18446744073709551616 := by
        rcases (by omega : k = 0 ∨ k = 1 ∨ k = 2 ∨ k = 3 ∨ k = 4 ∨ k = 5 ∨ k = 6 ∨ k = 7) with rfl | rfl | rfl | rfl | rfl | rfl | rfl | rfl <;> (simp only [Nat.reduceMul, Int.reducePow]; omega)
      have hb64 : leI (L.take k) < 18446744073709551616 := by
        have h1 := hbk.2
        rcases (by omega : k = 0 ∨ k = 1 ∨ k = 2 ∨ k = 3 ∨ k = 4 ∨ k = 5 ∨ k = 6 ∨ k = 7) with rfl | rfl | rfl | rfl | rfl | rfl | rfl | rfl <;> (simp only [Int.reducePow] at h1; omega)
      have hor := (or_apart (k := 8 * k) hbk.1 hb64 (by rw [← hpw]; exact hbk.2) hx0 h64).1
      have em : min ((8 * k : Nat) : Int).toNat IntKind.u64.bits = 8 * k := by show min _ 64 = _; omega
      conv => whnf
      rw [e8, ec]
      refine ⟨by omega, ?_⟩
      rw [em]
      conv => whnf
      rw [wrap_next (show k < 8 by omega) (by omega)]
      refine ⟨k + 1, [], [], ?_, hlt, by show L.length - (k + 1) < L.length - k; omega⟩
      repeat' (first | exact trivial | exact .inl (DLe.refl _) | exact .inl (DLe.nil _ _) | (refine .inr ⟨rfl, _, ?_, rfl⟩; rfl) | exact rfl | exact Nat.zero_le _ | constructor)
      refine DLe.of_eq (congrArg u64D ?_)
      rw [etk, leI_snoc, hlk, hpw, ← hor]
      have : w64 (x * 2 ^ (8 * k)) = x * 2 ^ (8 * k) := w64_id ⟨Int.mul_nonneg hx0 (Int.le_of_lt (Int.pow_pos (by decide))), h64⟩
      conv => rhs; rw [← this]
      rfl
    | false =>
      have hin : k = L.length := by have := of_decide_eq_false g1; omega
      conv => whnf
      rw [hin, List.take_length]
end Go.Proofs.YtcbpdjikdohegaaGreat.V
namespace Go.Proofs.YtcbpdjikdohegaaGreat.V
open Go.RowKit
attribute [local irreducible] Fn FnN OpVC Ob

theorem sum_fn (lo hi : Int) (L : List Int) (hL : Bytes L) (hl : L.length = 13) : Fn Tryz.prog 90 [.agg [u64D lo, u64D hi], rowsB L] fun d => d = u64D (sumS lo hi (leI (L.take 8)) (leI (L.drop 8) + 13 * 2 ^ 56)) := by
  refine fnOf [] Tryz.func90 rfl (by kernel_rfl) (Nat.le_of_ble_eq_true rfl) ?_
  generalize hw0 : leI (L.take 8) = w0
  have hs0 : S4.ok ⟨xorI lo 8317987319222330741, xorI hi 7237128888997146477, xorI lo 7816392313619706465, xorI hi 8387220255154660723⟩ := ⟨xorI_in _ _, xorI_in _ _, xorI_in _ _, xorI_in _ _⟩
  generalize hsd : (⟨xorI lo 8317987319222330741, xorI hi 7237128888997146477, xorI lo 7816392313619706465, xorI hi 8387220255154660723⟩ : S4) = s0 at hs0
  have hL5 : Bytes (L.drop 8) := fun x hx => hL x (List.mem_of_mem_drop hx)
  have hb5 := leI_in hL5
  rw [List.length_drop, hl] at hb5
  have h5 : leI (L.drop 8) < 1099511627776 := hb5.2
  have e13 : IntKind.u64.wrap (((13 : Nat) : Int).tmod 256) = 13 := by kernel_rfl
  have e56 : IntKind.u64.wrap (13 * 2 ^ (min (56 : Int).toNat IntKind.u64.bits)) = 13 * 2 ^ 56 := by kernel_rfl
  have hor := (or_apart (k := 56) (x := 13) hb5.1 (by omega) (by omega) (by omega) (by omega)).2
  unfold sumS
  rw [hsd]
  conv => whnf
  rw [hl]
  refine ⟨by decide, ?_⟩
  conv => whnf
  rw [e13]
  refine ⟨by decide, ?_⟩
  rw [e56]
  conv => whnf
  refine ⟨Nat, fun k => ⟨[(6, u64D (13 * 2 ^ 56)), (5, .loc 1 0), (1, rowsB (L.drop (8 * k)))], [(1, .cells 142 (s4D (match k with | 0 => s0 | _ + 1 => s0.take w0))), (0, .cells 24 [u64D lo, u64D hi])], 2, ([], 0)⟩, fun k => k ≤ 1, fun k => 1 - k, ⟨0, [], [], ?_, Nat.zero_le _⟩, ?_⟩
  · rw [← hsd]
    repeat' (first | exact trivial | exact .inl (DLe.refl _) | exact .inl (DLe.nil _ _) | (refine .inr ⟨rfl, _, ?_, rfl⟩; rfl) | exact rfl | exact Nat.zero_le _ | constructor)
  · intro k hk
    rcases (by have : k ≤ 1 := hk; omega : k = 0 ∨ k = 1) with rfl | rfl
    · conv => whnf
      rw [show decide (((L.drop (8 * 0)).length : Int) ≥ 8) = true from decide_eq_true (by rw [List.length_drop, hl]; decide)]
      conv => whnf
      refine ⟨rfl, ⟨by decide, by decide, by rw [List.length_drop, hl]; decide⟩, ?_⟩
      conv => whnf
      refine CallVC.pure (word_fn (L.take 8) (fun x hx => hL x (List.mem_of_mem_take hx)) (by rw [List.length_take]; omega)) rfl ?_
      rintro _ rfl
      rw [hw0]
      conv => whnf
      refine CallVC.ob (take_ob s0 hs0 w0) rfl rfl rfl ?_
      rintro _ _ ⟨rfl, rfl⟩
      conv => whnf
      refine ⟨rfl, ⟨by decide, by rw [List.length_drop, hl]; decide, Int.le_refl _⟩, ?_⟩
      conv => whnf
      refine ⟨1, [], [], ?_, Nat.le_refl _, by decide⟩
      repeat' (first | exact trivial | exact .inl (DLe.refl _) | exact .inl (DLe.nil _ _) | (refine .inr ⟨rfl, _, ?_, rfl⟩; rfl) | exact rfl | exact Nat.zero_le _ | constructor)
      refine DLe.rows ?_
      rw [Nat.mul_zero, List.drop_zero, List.take_of_length_le (by rw [Int.toNat_natCast]; exact Nat.le_refl _)]
      rfl
    · conv => whnf
      rw [show decide (((L.drop (8 * 1)).length : Int) ≥ 8) = false from decide_eq_false (by rw [List.length_drop, hl]; decide)]
      conv => whnf
      refine CallVC.pure (word_fn (L.drop 8) hL5 (by rw [List.length_drop, hl]; decide)) rfl ?_
      rintro _ rfl
      conv => whnf
      have eor : IntKind.u64.wrap (((BitVec.ofInt IntKind.u64.bits (13 * 2 ^ 56) ||| BitVec.ofInt IntKind.u64.bits (leI (L.drop 8))).toNat : Nat) : Int) = leI (L.drop 8) + 13 * 2 ^ 56 := hor
      rw [eor]
      have hs1 := take_ok s0 w0
      refine CallVC.ob (take_ob (s0.take w0) hs1 (leI (L.drop 8) + 13 * 2 ^ 56)) rfl rfl rfl ?_
      rintro _ _ ⟨rfl, rfl⟩
      have hs2 := take_ok (s0.take w0) (leI (L.drop 8) + 13 * 2 ^ 56)
      generalize hsd2 : (s0.take w0).take (leI (L.drop 8) + 13 * 2 ^ 56) = s2 at hs2
      conv => whnf
      refine CallVC.ob (round_ob ⟨s2.a, s2.b, xorI s2.c 255, s2.d⟩ ⟨hs2.1, hs2.2.1, xorI_in _ _, hs2.2.2.2⟩ 4 (by decide)) rfl rfl rfl ?_
      rintro _ _ ⟨rfl, rfl⟩
      conv => whnf
      subst hsd2
      rfl

def underN (lo hi : Int) (L : List Int) (n : Int) : Int := sumS lo hi (leI (L.take 8)) (leI (L.drop 8) + 13 * 2 ^ 56) % n
theorem sumS_in (lo hi w0 w1 : Int) : U64 (sumS lo hi w0 w1) := xorI_in _ _
theorem underN_in (lo hi : Int) (L : List Int) {n : Int} (hn : 0 < n) : 0 ≤ underN lo hi L n ∧ underN lo hi L n < n := ⟨Int.emod_nonneg _ (by omega), Int.emod_lt_of_pos _ hn⟩
theorem under_fn (lo hi : Int) (L : List Int) (hL : Bytes L) (hl : L.length = 13) (n : Int) (hn : 0 < n ∧ n < 9223372036854775808) : Fn Tryz.prog 81 [.agg [u64D lo, u64D hi], rowsB L, intD n] fun d => d = intD (underN lo hi L n) := by
  refine fnOf [] Tryz.func81 rfl (by kernel_rfl) (Nat.le_of_ble_eq_true rfl) ?_
  have hs := sumS_in lo hi (leI (L.take 8)) (leI (L.drop 8) + 13 * 2 ^ 56)
  have hu := underN_in lo hi L hn.1
  have e1 : IntKind.u64.wrap n = n := w64_id ⟨by omega, by omega⟩
  have e2 : (sumS lo hi (leI (L.take 8)) (leI (L.drop 8) + 13 * 2 ^ 56)).tmod n = underN lo hi L n := Int.tmod_eq_emod_of_nonneg hs.1
  have e3 : IntKind.i64.wrap (underN lo hi L n) = underN lo hi L n := IntWalk.i64_in _ (by omega)
  conv => whnf
  rw [show decide (n < 1) = false from decide_eq_false (by omega)]
  conv => whnf
  refine CallVC.pure (sum_fn lo hi L hL hl) rfl ?_
  rintro _ rfl
  conv => whnf
  rw [e1]
  refine ⟨by omega, ?_⟩
  rw [e2]
  conv => whnf
  rw [e3]

/-! ### A flow as bytes -/
theorem u8_wrap (n : Int) : IntKind.u8.wrap n = n % 256 := by
  unfold IntKind.wrap
  simp only [IntKind.signed, IntKind.bits]
  simp
end Go.Proofs.YtcbpdjikdohegaaGreat.V
