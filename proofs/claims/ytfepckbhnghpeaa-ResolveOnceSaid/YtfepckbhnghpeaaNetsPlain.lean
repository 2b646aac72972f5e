/-
  Plain laws of nets: masks, and what they leave of an address. No program. Conditions: an address is a u32.
-/
import Derived.Laws.BitsAllLaws
import Derived.WalkKit
namespace Go.Proofs.Ytfepckbhnghpeaa

def nbits (b : Int) : Nat := (min (max b 0) 32).toNat
def maskI (b : Int) : Int := 4294967296 - 2 ^ (32 - nbits b)
def specB (a : Int) : Bool := a == 0 || a / 16777216 == 127 || decide (224 ≤ a / 16777216)
def inB (a n b : Int) : Bool := a / 2 ^ (32 - nbits b) == n / 2 ^ (32 - nbits b)
def hostB (a n b : Int) : Bool :=
  (decide (31 ≤ b) || (!(a % 2 ^ (32 - nbits b) == 0) && !(a % 2 ^ (32 - nbits b) == 2 ^ (32 - nbits b) - 1))) && inB a n b && !specB a

theorem nbits_le (b : Int) : nbits b ≤ 32 := by unfold nbits; omega

theorem nat_and_mask (x k : Nat) (hk : k ≤ 32) (hx : x < 2 ^ 32) : x &&& (2 ^ 32 - 2 ^ k) = x / 2 ^ k * 2 ^ k := by
  have e : 2 ^ 32 - 2 ^ k = (2 ^ (32 - k) - 1) <<< k := by
    rw [Nat.shiftLeft_eq, Nat.sub_mul, Nat.one_mul, ← Nat.pow_add]
    congr 2; omega
  rw [e]
  rw [← Nat.shiftRight_eq_div_pow, ← Nat.shiftLeft_eq]
  apply Nat.eq_of_testBit_eq
  intro i
  simp only [Nat.testBit_and, Nat.testBit_shiftLeft, Nat.testBit_shiftRight, Nat.testBit_two_pow_sub_one]
  by_cases h : k ≤ i
  · simp only [ge_iff_le, h, decide_true, Bool.true_and]
    rw [show k + (i - k) = i by omega]
    by_cases h32 : i < 32
    · have : i - k < 32 - k := by omega
      simp [this]
    · have : x.testBit i = false := Nat.testBit_lt_two_pow (Nat.lt_of_lt_of_le hx (Nat.pow_le_pow_right (by omega) (by omega)))
      simp [this]
  · simp [h]

theorem nat_xor_zero (a b : Nat) : a ^^^ b = 0 ↔ a = b := by
  constructor
  · intro h
    apply Nat.eq_of_testBit_eq
    intro i
    have := congrArg (fun x => Nat.testBit x i) h
    simp only [Nat.testBit_xor, Nat.zero_testBit] at this
    cases h1 : a.testBit i <;> cases h2 : b.testBit i <;> simp_all
  · rintro rfl; simp

theorem nat_xor_div (a b k : Nat) : (a ^^^ b) / 2 ^ k = a / 2 ^ k ^^^ b / 2 ^ k := by
  simp only [← Nat.shiftRight_eq_div_pow]
  apply Nat.eq_of_testBit_eq
  intro i
  simp [Nat.testBit_shiftRight, Nat.testBit_xor]

theorem nat_in (a n k : Nat) (hk : k ≤ 32) (ha : a < 2 ^ 32) (hn : n < 2 ^ 32) : (a ^^^ n) &&& (2 ^ 32 - 2 ^ k) = 0 ↔ a / 2 ^ k = n / 2 ^ k := by
  rw [nat_and_mask _ _ hk (Nat.xor_lt_two_pow ha hn), nat_xor_div]
  constructor
  · intro h
    have hp : 0 < 2 ^ k := Nat.two_pow_pos k
    have : (a / 2 ^ k ^^^ n / 2 ^ k) = 0 := by
      rcases Nat.mul_eq_zero.1 h with h' | h'
      · exact h'
      · omega
    exact (nat_xor_zero _ _).1 this
  · intro h
    rw [(nat_xor_zero _ _).2 h]; simp

theorem two_pow_int (k : Nat) : ((2 ^ k : Nat) : Int) = 2 ^ k := by simp

theorem maskI_nat (b : Int) : maskI b = ((2 ^ 32 - 2 ^ (32 - nbits b) : Nat) : Int) := by
  unfold maskI
  have : 2 ^ (32 - nbits b) ≤ 2 ^ 32 := Nat.pow_le_pow_right (by omega) (by omega)
  rw [Int.ofNat_sub this]; simp

theorem in_plain (a n b : Int) (a0 : 0 ≤ a) (a1 : a ≤ 4294967295) (n0 : 0 ≤ n) (n1 : n ≤ 4294967295) :
    (bits .and .u32 (bits .xor .u32 a n) (maskI b) == 0) = inB a n b := by
  obtain ⟨x, rfl⟩ := Int.eq_ofNat_of_zero_le a0
  obtain ⟨y, rfl⟩ := Int.eq_ofNat_of_zero_le n0
  have hx : x < 4294967296 := by omega
  have hy : y < 4294967296 := by omega
  have hxy : x ^^^ y < 4294967296 := Nat.xor_lt_two_pow (n := 32) hx hy
  have hm : 2 ^ 32 - 2 ^ (32 - nbits b) < 4294967296 := by have : 0 < 2 ^ (32 - nbits b) := Nat.two_pow_pos _; omega
  rw [u32_xor_nat x y hx hy, maskI_nat, u32_and_nat _ _ hxy hm]
  unfold inB
  rw [Bool.eq_iff_iff]
  simp only [beq_iff_eq]
  rw [← two_pow_int, ← Int.natCast_ediv, ← Int.natCast_ediv]
  have := nat_in x y (32 - nbits b) (by omega) hx hy
  constructor
  · intro h; have h' := this.1 (by exact_mod_cast h); exact_mod_cast h'
  · intro h; have h' := this.2 (by exact_mod_cast h); exact_mod_cast h'

theorem low_plain (a : Int) (k : Nat) (a0 : 0 ≤ a) (a1 : a ≤ 4294967295) (hk : k ≤ 32) : bits .and .u32 a (2 ^ k - 1) = a % 2 ^ k := by
  obtain ⟨x, rfl⟩ := Int.eq_ofNat_of_zero_le a0
  have h1 : ((2 ^ k - 1 : Nat) : Int) = 2 ^ k - 1 := by rw [Int.ofNat_sub (Nat.two_pow_pos k)]; simp
  have hm : 2 ^ k - 1 < 4294967296 := by have : 2 ^ k ≤ 2 ^ 32 := Nat.pow_le_pow_right (by omega) hk; have : 0 < 2 ^ k := Nat.two_pow_pos k; omega
  rw [← h1, u32_and_nat x _ (by omega) hm, Nat.and_two_pow_sub_one_eq_mod]
  simp

theorem div_bit (a : Int) (k : Nat) : a / 2 ^ k = 2 * (a / 2 ^ (k + 1)) + a / 2 ^ k % 2 := by
  have : a / 2 ^ (k + 1) = a / 2 ^ k / 2 := by
    rw [Int.pow_succ, Int.ediv_ediv_of_nonneg (by exact Int.pow_nonneg (by omega))]
  rw [this]; omega

theorem mask_w1 (b : Int) (h : 32 < if b < 0 then 0 else b) : IntKind.u64.wrap (4294967296 - IntKind.u64.wrap 1) % 4294967296 = maskI b := by
  have : nbits b = 32 := by unfold nbits; split at h <;> omega
  unfold maskI; rw [this]; decide
theorem mask_w2 (b : Int) (h : b < 0) : IntKind.u64.wrap (4294967296 - IntKind.u64.wrap 4294967296) % 4294967296 = maskI b := by
  have : nbits b = 0 := by unfold nbits; omega
  unfold maskI; rw [this]; decide
theorem mask_w3 (b : Int) (h : 0 ≤ b) (h' : (if b < 0 then 0 else b) ≤ 32) : IntKind.u64.wrap (4294967296 - IntKind.u64.wrap (2 ^ (32 - b).toNat)) % 4294967296 = maskI b := by
  rw [if_neg (by omega)] at h'
  have e : (32 - b).toNat = 32 - nbits b := by unfold nbits; omega
  unfold maskI; rw [e]
  generalize hk : 32 - nbits b = k
  have hk' : k ≤ 32 := by omega
  have h1 : (2 : Int) ^ k ≤ 2 ^ 32 := by rw [← two_pow_int, ← two_pow_int]; exact_mod_cast Nat.pow_le_pow_right (by omega) hk'
  have h2 : (0 : Int) < 2 ^ k := by rw [← two_pow_int]; exact_mod_cast Nat.two_pow_pos k
  simp only [IntKind.wrap_u64]
  rw [Int.emod_eq_of_lt (a := 2 ^ k) (by omega) (by omega), Int.emod_eq_of_lt (a := 4294967296 - 2 ^ k) (by omega) (by omega)]
  omega

theorem nat_xor_all (x k : Nat) (h : k ≤ 32) (hx : x = 2 ^ 32 - 2 ^ k) : 4294967295 ^^^ x = 2 ^ k - 1 := by
  have hm : x = (2 ^ (32 - k) - 1) <<< k := by
    rw [hx, Nat.shiftLeft_eq, Nat.sub_mul, Nat.one_mul, ← Nat.pow_add]
    congr 2; omega
  rw [hm]
  apply Nat.eq_of_testBit_eq
  intro i
  have e : (4294967295 : Nat) = 2 ^ 32 - 1 := rfl
  rw [e]
  simp only [Nat.testBit_xor, Nat.testBit_shiftLeft, Nat.testBit_two_pow_sub_one]
  by_cases h2 : k ≤ i
  · have hd : decide (i - k < 32 - k) = decide (i < 32) := by
      rw [Bool.eq_iff_iff]; simp only [decide_eq_true_eq]; omega
    have h3 : ¬ i < k := by omega
    simp [h2, hd, h3]
  · have h3 : i < k := by omega
    have h4 : i < 32 := by omega
    simp [h2, h3, h4]

theorem low_eq (b : Int) : bits .xor .u32 IntKind.u32.max (maskI b) = 2 ^ (32 - nbits b) - 1 := by
  have hm : IntKind.u32.max = ((4294967295 : Nat) : Int) := by decide
  have h0 : 0 < 2 ^ (32 - nbits b) := Nat.two_pow_pos _
  rw [hm, maskI_nat, u32_xor_nat _ _ (by omega) (by omega), nat_xor_all _ (32 - nbits b) (by omega) rfl, Int.ofNat_sub (Nat.two_pow_pos _)]
  simp

theorem in_step (a n : Int) (k : Nat) (h : k < 32) (he : a / 2 ^ (32 - k) = n / 2 ^ (32 - k)) :
    (a / 2 ^ (31 - k) % 2 = n / 2 ^ (31 - k) % 2) ↔ a / 2 ^ (32 - (k + 1)) = n / 2 ^ (32 - (k + 1)) := by
  have e1 := div_bit a (31 - k)
  have e2 := div_bit n (31 - k)
  rw [show 31 - k + 1 = 32 - k by omega] at e1 e2
  rw [show 32 - (k + 1) = 31 - k by omega]
  constructor <;> intro h' <;> omega

theorem in_start (a n : Int) (a0 : 0 ≤ a) (a1 : a ≤ 4294967295) (n0 : 0 ≤ n) (n1 : n ≤ 4294967295) : a / 2 ^ (32 - 0) = n / 2 ^ (32 - 0) := by
  have : (2 : Int) ^ (32 - 0) = 4294967296 := by decide
  rw [this]; omega

theorem in_done (a n b : Int) (k : Nat) (hk : k = nbits b) (he : a / 2 ^ (32 - k) = n / 2 ^ (32 - k)) : inB a n b = true := by
  unfold inB; rw [← hk, he]; simp

theorem in_not (a n b : Int) (k : Nat) (hk : k < nbits b) (he : ¬ a / 2 ^ (32 - (k + 1)) = n / 2 ^ (32 - (k + 1))) : inB a n b = false := by
  unfold inB
  rw [beq_eq_false_iff_ne]
  intro h
  apply he
  have hb := nbits_le b
  have e : 32 - (k + 1) = (32 - nbits b) + (nbits b - (k + 1)) := by omega
  rw [e, Int.pow_add, ← Int.ediv_ediv_of_nonneg (by exact Int.pow_nonneg (by omega)), ← Int.ediv_ediv_of_nonneg (by exact Int.pow_nonneg (by omega)), h]
end Go.Proofs.Ytfepckbhnghpeaa
