/-
  The walks of Prime of layer 18, of the program and of the reference. Condition: none beyond an int's bounds.
-/
import Derived.Test.YtejkambjfcpagaaRow
import Derived.Test.YtejkambjfcpagaaProg
import Derived.LoopTactic
import Derived.Handy
namespace Go.Proofs.Ytejkambjfcpagaa
open Go.RowKit

/-- No part from 2 on up to ahead of itself. -/
def primeN (n : Nat) : Bool := decide (2 ≤ n) && decide (n ≤ 251) && (List.range n).all fun d => decide (d < 2) || n % d != 0
def primeB (m : Int) : Bool := decide (0 ≤ m) && primeN m.toNat
def primeS (n : Nat) : Bool := decide (2 ≤ n) && decide (n ≤ 251) && (List.range 17).all fun d => decide (d < 2) || decide (n < d * d) || n % d != 0

theorem prime_same (n : Nat) (h : n ≤ 251) : primeS n = primeN n := by
  have : ∀ k : Fin 252, primeS k.val = primeN k.val := by decide +kernel
  exact this ⟨n, by omega⟩

theorem primeB_small (m : Int) (h : m < 2 ∨ 251 < m) : primeB m = false := by
  unfold primeB primeN
  by_cases h0 : 0 ≤ m
  · have : ¬ (2 ≤ m.toNat ∧ m.toNat ≤ 251) := by omega
    by_cases h1 : 2 ≤ m.toNat
    · have h2 : ¬ m.toNat ≤ 251 := fun h2 => this ⟨h1, h2⟩
      simp [h2]
    · simp [h1]
  · simp [h0]

theorem primeB_no (n d : Nat) (h2 : 2 ≤ d) (hd : d < n) (h : n % d = 0) : primeB n = false := by
  unfold primeB primeN
  simp only [Int.toNat_natCast]
  have : ((List.range n).all fun d => decide (d < 2) || n % d != 0) = false := by
    rw [List.all_eq_false]
    exact ⟨d, List.mem_range.2 hd, by simp [h]; omega⟩
  rw [this]; simp

theorem primeB_yes (n : Nat) (h2 : 2 ≤ n) (h251 : n ≤ 251) (h : ∀ e, 2 ≤ e → e < n → ¬ n % e = 0) : primeB n = true := by
  unfold primeB primeN
  simp only [Int.toNat_natCast, Bool.and_eq_true, decide_eq_true_eq, List.all_eq_true, List.mem_range]
  refine ⟨by omega, ⟨h2, h251⟩, fun d hd => ?_⟩
  by_cases hd2 : d < 2
  · simp [hd2]
  · simp [h d (by omega) hd]

theorem primeB_root (n : Nat) (d : Nat) (h2 : 2 ≤ n) (h251 : n ≤ 251) (hsq : n < d * d) (h : ∀ e, 2 ≤ e → e < d → ¬ n % e = 0) : primeB n = true := by
  unfold primeB
  simp only [Int.toNat_natCast]
  rw [← prime_same n h251]
  unfold primeS
  simp only [Bool.and_eq_true, decide_eq_true_eq, List.all_eq_true]
  refine ⟨by omega, ⟨h2, h251⟩, fun e _ => ?_⟩
  by_cases he2 : e < 2
  · simp [he2]
  · by_cases hed : e < d
    · simp [h e (by omega) hed]
    · have : d * d ≤ e * e := Nat.mul_le_mul (by omega) (by omega)
      have : n < e * e := by omega
      simp [this]

set_option maxHeartbeats 1000000 in
theorem prime_any (m : Int) (w : World) :
    Calls Try.prog 14 #[.int .i64 m] w fun e w' => e = .returned (.bool (primeB m)) ∧ w = w' := by
  by_cases hm : m < 2 ∨ 251 < m
  · have hp := primeB_small m hm
    have Hp := Lib.hid hp
    clear hp
    rcases hm with hm | hm
    · go_enter Try.func14, Try.ntmps14
      go_wp2
      go_ret
      exact ⟨ret_bool Hp.out.symm, rfl⟩
    · have hm2 : ¬ m < 2 := by omega
      go_enter Try.func14, Try.ntmps14
      go_wp2
      go_ret
      exact ⟨ret_bool Hp.out.symm, rfl⟩
  · obtain ⟨n, rfl⟩ := Int.eq_ofNat_of_zero_le (show 0 ≤ m by omega)
    have h2 : 2 ≤ n := by omega
    have h251 : n ≤ 251 := by omega
    have h2' : (2 : Int) ≤ n := by omega
    have h251' : (n : Int) ≤ 251 := by omega
    clear hm
    go_enter Try.func14, Try.ntmps14
    go_wp2
    go_loop [3] (fun i => ∃ d : Nat, 2 ≤ d ∧ d ≤ 17 ∧ i = .int .i64 d ∧ Hid (∀ e, 2 ≤ e → e < d → ¬ n % e = 0)) (fun i => 17 - (intOf i).toNat)
    case atStart => exact ⟨2, by omega, by omega, rfl, fun e h1 h2 => by omega⟩
    case round =>
      obtain ⟨d, hd2, hd17, rfl, He⟩ := hrel
      have hsq : d * d ≤ 289 := Nat.mul_le_mul hd17 hd17
      have hsq1 : (d : Int) * d ≤ 289 := by have h := Int.ofNat_le.2 hsq; rw [Int.natCast_mul] at h; exact h
      have hsq0 : 0 ≤ (d : Int) * d := Int.mul_nonneg (by omega) (by omega)
      have hw : IntKind.i64.wrap ((d : Int) * d) = (d : Int) * d := IntWalk.i64_in _ (by omega)
      by_cases hle : d * d ≤ n
      · have hle' : decide ((d : Int) * d ≤ (n : Int)) = true := by rw [decide_eq_true_eq]; exact_mod_cast hle
        have hd16 : d ≤ 16 := by
          have : d < 17 := by
            rcases Nat.lt_or_ge d 17 with h | h
            · exact h
            · have : 17 * 17 ≤ d * d := Nat.mul_le_mul h h
              omega
          omega
        have hmodc : ((n : Int) % (d : Int)) = ((n % d : Nat) : Int) := by omega
        have HM := Lib.hid hmodc
        clear hmodc hsq
        by_cases hz : n % d = 0
        · have hz' : ((n : Int) % (d : Int) == 0) = true := by rw [HM.out, hz]; rfl
          have Hz := Lib.hid hz
          clear hz
          go_wp2
          go_ret
          refine ⟨ret_bool (primeB_no n d hd2 ?_ Hz.out).symm, rfl⟩
          have h1 : 2 * d ≤ d * d := Nat.mul_le_mul_right d hd2
          omega
        · have hz' : ((n : Int) % (d : Int) == 0) = false := by rw [HM.out, beq_eq_false_iff_ne]; omega
          have Hz := Lib.hid hz
          clear hz
          go_wp2
          go_round
          case rel => exact ⟨d + 1, by omega, by omega, by go_num, fun e h1 h2 => by rcases Nat.lt_succ_iff_lt_or_eq.1 h2 with h | rfl; exact He.out e h1 h; exact Hz.out⟩
          case measure => simp [intOf]; omega
      · have hle' : decide ((d : Int) * d ≤ (n : Int)) = false := by rw [decide_eq_false_iff_not]; intro h; exact hle (by exact_mod_cast h)
        have Hle := Lib.hid hle
        clear hle
        go_wp2
        go_ret
        exact ⟨ret_bool (primeB_root n d h2 h251 (by have := Hle.out; omega) He.out).symm, rfl⟩

set_option maxHeartbeats 1000000 in
theorem rprime_any (m : Int) (w : World) :
    Calls Try.prog 17 #[.int .i64 m] w fun e w' => e = .returned (.bool (primeB m)) ∧ w = w' := by
  by_cases hm : m < 2 ∨ 251 < m
  · have hp := primeB_small m hm
    have Hp := Lib.hid hp
    clear hp
    rcases hm with hm | hm
    · go_enter Try.func17, Try.ntmps17
      go_wp2
      go_ret
      exact ⟨ret_bool Hp.out.symm, rfl⟩
    · have hm2 : ¬ m < 2 := by omega
      go_enter Try.func17, Try.ntmps17
      go_wp2
      go_ret
      exact ⟨ret_bool Hp.out.symm, rfl⟩
  · obtain ⟨n, rfl⟩ := Int.eq_ofNat_of_zero_le (show 0 ≤ m by omega)
    have h2 : 2 ≤ n := by omega
    have h251 : n ≤ 251 := by omega
    have h2' : (2 : Int) ≤ n := by omega
    have h251' : (n : Int) ≤ 251 := by omega
    clear hm
    go_enter Try.func17, Try.ntmps17
    go_wp2
    go_loop [3] (fun i => ∃ d : Nat, 2 ≤ d ∧ d ≤ n ∧ i = .int .i64 d ∧ Hid (∀ e, 2 ≤ e → e < d → ¬ n % e = 0)) (fun i => n - (intOf i).toNat)
    case atStart => exact ⟨2, by omega, by omega, rfl, fun e h1 h2 => by omega⟩
    case round =>
      obtain ⟨d, hd2, hdn, rfl, He⟩ := hrel
      by_cases hlt : d < n
      · have hmodc : ((n : Int) % (d : Int)) = ((n % d : Nat) : Int) := by omega
        have HM := Lib.hid hmodc
        clear hmodc
        by_cases hz : n % d = 0
        · have hz' : ((n : Int) % (d : Int) == 0) = true := by rw [HM.out, hz]; rfl
          have Hz := Lib.hid hz
          clear hz
          go_wp2
          go_ret
          exact ⟨ret_bool (primeB_no n d hd2 hlt Hz.out).symm, rfl⟩
        · have hz' : ((n : Int) % (d : Int) == 0) = false := by rw [HM.out, beq_eq_false_iff_ne]; omega
          have Hz := Lib.hid hz
          clear hz
          go_wp2
          go_round
          case rel => exact ⟨d + 1, by omega, by omega, by go_num, fun e h1 h2 => by rcases Nat.lt_succ_iff_lt_or_eq.1 h2 with h | rfl; exact He.out e h1 h; exact Hz.out⟩
          case measure => simp [intOf]; omega
      · obtain rfl : d = n := by omega
        go_wp2
        go_ret
        exact ⟨ret_bool (primeB_yes d h2 h251 He.out).symm, rfl⟩
end Go.Proofs.Ytejkambjfcpagaa
