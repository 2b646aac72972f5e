/-
  The walks of layer 3's nets: Mask, In, Special, Host of the program and of the reference. Conditions: an address is a u32.
-/
import Derived.Test.YtfepckbhnghpeaaRow
import Derived.Test.YtfepckbhnghpeaaNetsPlain
import Derived.Test.YtfepckbhnghpeaaProg
import Derived.LoopTactic
import Derived.Handy
namespace Go.Proofs.Ytfepckbhnghpeaa
open Go.RowKit

set_option maxHeartbeats 400000 in
theorem mask_any (b : Int) (w : World) :
    Calls Try.prog 56 #[.int .i64 b] w fun e w' => e = .returned (.int .u32 (maskI b)) ∧ w = w' := by
  go_enter Try.func56, Try.ntmps56
  go_wp2
  all_goals
    go_ret
    refine ⟨ret_int ?_, rfl⟩
    go_light
    first
      | exact mask_w1 b (by assumption)
      | exact mask_w2 b (by assumption)
      | exact mask_w3 b (by assumption) (by assumption)

set_option maxHeartbeats 400000 in
theorem special_any (a : Int) (w : World) (_h0 : 0 ≤ a) (_h1 : a ≤ 4294967295) :
    Calls Try.prog 49 #[.int .u32 a] w fun e w' => e = .returned (.bool (specB a)) ∧ w = w' := by
  go_enter Try.func49, Try.ntmps49
  go_wp2
  all_goals
    go_ret
    refine ⟨ret_bool ?_, rfl⟩
    go_light
    grind [specB]

set_option maxHeartbeats 400000 in
theorem rspecial_any (a : Int) (w : World) (_h0 : 0 ≤ a) (_h1 : a ≤ 4294967295) :
    Calls Try.prog 45 #[.int .u32 a] w fun e w' => e = .returned (.bool (specB a)) ∧ w = w' := by
  go_enter Try.func45, Try.ntmps45
  go_wp2
  all_goals
    go_ret
    refine ⟨ret_bool ?_, rfl⟩
    go_light
    grind [specB]

set_option maxHeartbeats 400000 in
theorem in_any (a n b : Int) (w : World) (a0 : 0 ≤ a) (a1 : a ≤ 4294967295) (n0 : 0 ≤ n) (n1 : n ≤ 4294967295) :
    Calls Try.prog 51 #[.int .u32 a, .int .u32 n, .int .i64 b] w fun e w' => e = .returned (.bool (inB a n b)) ∧ w = w' := by
  go_enter Try.func51, Try.ntmps51
  go_wp2_with (first | (go_at_call 56; refine (mask_any _ _).mono ?_; rintro e w' ⟨rfl, rfl⟩))
  go_ret
  exact ⟨ret_bool (in_plain a n b a0 a1 n0 n1), rfl⟩

set_option maxHeartbeats 400000 in
theorem host_any (a n b : Int) (w : World) (a0 : 0 ≤ a) (a1 : a ≤ 4294967295) (n0 : 0 ≤ n) (n1 : n ≤ 4294967295) :
    Calls Try.prog 30 #[.int .u32 a, .int .u32 n, .int .i64 b] w fun e w' => e = .returned (.bool (hostB a n b)) ∧ w = w' := by
  go_enter Try.func30, Try.ntmps30
  go_wp2_with (first | (go_at_call 56; refine (mask_any _ _).mono ?_; rintro e w' ⟨rfl, rfl⟩) | (go_at_call 51; refine (in_any _ _ _ _ a0 a1 n0 n1).mono ?_; rintro e w' ⟨rfl, rfl⟩) | (go_at_call 49; refine (special_any _ _ a0 a1).mono ?_; rintro e w' ⟨rfl, rfl⟩))
  all_goals
    go_ret
    refine ⟨ret_bool ?_, rfl⟩
    go_light
    have e1 := low_plain a (32 - nbits b) a0 a1 (by omega)
    have e2 := low_eq b
    simp only [e2] at *
    simp only [e1] at *
    clear e1 e2
    grind [hostB]

set_option maxHeartbeats 1000000 in
theorem rin_any (a n b : Int) (w : World) (a0 : 0 ≤ a) (a1 : a ≤ 4294967295) (n0 : 0 ≤ n) (n1 : n ≤ 4294967295) :
    Calls Try.prog 19 #[.int .u32 a, .int .u32 n, .int .i64 b] w fun e w' => e = .returned (.bool (inB a n b)) ∧ w = w' := by
  go_enter Try.func19, Try.ntmps19
  go_wp2
  go_loop [7] (fun i => ∃ k : Nat, k ≤ nbits b ∧ i = .int .i64 k ∧ a / 2 ^ (32 - k) = n / 2 ^ (32 - k)) (fun i => 32 - (intOf i).toNat)
  case atStart => exact ⟨0, Nat.zero_le _, rfl, in_start a n a0 a1 n0 n1⟩
  case round =>
    obtain ⟨k, hk, rfl, he⟩ := hrel
    have He := Lib.hid he
    have hb32 := nbits_le b
    clear he
    by_cases hlt : k < nbits b
    · have h1 : (k : Int) < 32 := by omega
      have h2 : (k : Int) < b := by unfold nbits at hlt; omega
      go_wp2
      go_loop [8, 9, 10] (fun x y j => ∃ (q : Nat) (u v : Int), k ≤ q ∧ q ≤ 31 ∧ j = .int .i64 q ∧ x = .int .u32 u ∧ y = .int .u32 v ∧ 0 ≤ u ∧ 0 ≤ v ∧ u ≤ 4294967295 ∧ v ≤ 4294967295 ∧ Hid (u = a / 2 ^ (q - k)) ∧ Hid (v = n / 2 ^ (q - k))) (fun _ _ j => 31 - (intOf j).toNat)
      case atStart => exact ⟨k, a, n, Nat.le_refl _, by omega, rfl, rfl, rfl, a0, n0, a1, n1, by simp [Hid], by simp [Hid]⟩
      case round =>
        obtain ⟨q, u, v, hq1, hq2, rfl, rfl, rfl, u0, v0, u1, v1, Hu, Hv⟩ := hrel
        by_cases hq : q < 31
        · go_wp2
          go_round
          case rel =>
            refine ⟨q + 1, u / 2, v / 2, by omega, by omega, by go_num, rfl, rfl, by omega, by omega, by omega, by omega, ?_, ?_⟩
            · unfold Hid; rw [Hu.out, show q + 1 - k = (q - k) + 1 by omega, Int.pow_succ, Int.ediv_ediv_of_nonneg (by exact Int.pow_nonneg (by omega))]
            · unfold Hid; rw [Hv.out, show q + 1 - k = (q - k) + 1 by omega, Int.pow_succ, Int.ediv_ediv_of_nonneg (by exact Int.pow_nonneg (by omega))]
          case measure => simp [intOf]; omega
        · obtain rfl : q = 31 := by omega
          by_cases hd : u % 2 = v % 2
          · have hd' : (u % 2 != v % 2) = false := by rw [bne_eq_false_iff_eq]; exact hd
            have Hd := Lib.hid hd
            clear hd
            go_wp2
            go_round
            case rel =>
              refine ⟨k + 1, by omega, by go_num, (in_step a n k (by omega) He.out).1 ?_⟩
              rw [← Hu.out, ← Hv.out]; exact Hd.out
            case measure => simp [intOf]; omega
          · have hd' : (u % 2 != v % 2) = true := by rw [bne_iff_ne]; exact hd
            have Hd := Lib.hid hd
            clear hd
            go_wp2
            go_ret
            refine ⟨ret_bool ?_, rfl⟩
            refine (in_not a n b k hlt fun h => Hd.out ?_).symm
            rw [Hu.out, Hv.out]
            exact (in_step a n k (by omega) He.out).2 h
    · have h1 : (32 ≤ (k : Int)) ∨ ((k : Int) < 32 ∧ b ≤ (k : Int)) := by unfold nbits at hlt; omega
      rcases h1 with h1 | ⟨h1, h2⟩
      all_goals
        go_wp2
        go_ret
        exact ⟨ret_bool (in_done a n b k (by omega) He.out).symm, rfl⟩

set_option maxHeartbeats 1000000 in
theorem rhost_any (a n b : Int) (w : World) (a0 : 0 ≤ a) (a1 : a ≤ 4294967295) (n0 : 0 ≤ n) (n1 : n ≤ 4294967295) (hb0 : -9223372036854775808 ≤ b) :
    Calls Try.prog 18 #[.int .u32 a, .int .u32 n, .int .i64 b] w fun e w' => e = .returned (.bool (hostB a n b)) ∧ w = w' := by
  have Q : hostB a n b = ((decide (31 ≤ b) || (!(a % 2 ^ (32 - nbits b) == 0) && !(a % 2 ^ (32 - nbits b) == 2 ^ (32 - nbits b) - 1))) && inB a n b && !specB a) := rfl
  have HQ := Lib.hid Q
  clear Q
  have hb32 := nbits_le b
  cases hi : inB a n b
  · go_enter Try.func18, Try.ntmps18
    go_wp2_with (first | (go_at_call 19; refine (rin_any _ _ _ _ a0 a1 n0 n1).mono ?_; rintro e w' ⟨rfl, rfl⟩))
    go_ret
    exact ⟨ret_bool (by rw [HQ.out, hi]; simp), rfl⟩
  cases hs : specB a
  case true =>
    go_enter Try.func18, Try.ntmps18
    go_wp2_with (first | (go_at_call 19; refine (rin_any _ _ _ _ a0 a1 n0 n1).mono ?_; rintro e w' ⟨rfl, rfl⟩) | (go_at_call 45; refine (rspecial_any _ _ a0 a1).mono ?_; rintro e w' ⟨rfl, rfl⟩))
    go_ret
    exact ⟨ret_bool (by rw [HQ.out, hs]; simp), rfl⟩
  by_cases h31 : 31 ≤ b
  · go_enter Try.func18, Try.ntmps18
    go_wp2_with (first | (go_at_call 19; refine (rin_any _ _ _ _ a0 a1 n0 n1).mono ?_; rintro e w' ⟨rfl, rfl⟩) | (go_at_call 45; refine (rspecial_any _ _ a0 a1).mono ?_; rintro e w' ⟨rfl, rfl⟩))
    go_ret
    exact ⟨ret_bool (by rw [HQ.out, hs, hi]; simp [h31]), rfl⟩
  · have hlt : b < 31 := by omega
    go_enter Try.func18, Try.ntmps18
    go_wp2_with (first | (go_at_call 19; refine (rin_any _ _ _ _ a0 a1 n0 n1).mono ?_; rintro e w' ⟨rfl, rfl⟩) | (go_at_call 45; refine (rspecial_any _ _ a0 a1).mono ?_; rintro e w' ⟨rfl, rfl⟩))
    go_loop [7, 8] (fun x i => ∃ (j : Nat) (u q : Int), j ≤ 32 - nbits b ∧ x = .int .u64 u ∧ i = .int .i64 q ∧ 1 ≤ u ∧ u ≤ 4294967296 ∧ -9223372036854775808 ≤ q ∧ q ≤ 32 ∧ Hid (u = 2 ^ j) ∧ Hid (q = b + j)) (fun _ i => (32 - intOf i).toNat)
    case atStart => exact ⟨0, 1, b, by omega, rfl, rfl, by omega, by omega, by omega, by omega, by simp [Hid], by simp [Hid]⟩
    case round =>
      obtain ⟨j, u, q, hj, rfl, rfl, u0, u1, q0, q1, Hu, Hq⟩ := hrel
      by_cases hjl : j < 32 - nbits b
      · have h1 : q < 32 := by have := Hq.out; unfold nbits at hjl; omega
        have h2 : u < 4294967296 := by
          have e : ((2 ^ j : Nat) : Int) < ((2 ^ 32 : Nat) : Int) := by exact_mod_cast Nat.pow_lt_pow_right (by omega) (by omega)
          have := Hu.out; rw [two_pow_int] at e; omega
        have h3 : u * 2 ≤ 4294967296 := by
          have e : ((2 ^ (j + 1) : Nat) : Int) ≤ ((2 ^ 32 : Nat) : Int) := by exact_mod_cast Nat.pow_le_pow_right (by omega) (by omega)
          have := Hu.out; rw [two_pow_int, Int.pow_succ, ← this] at e; omega
        go_wp2
        go_round
        case rel => exact ⟨j + 1, u * 2, q + 1, by omega, rfl, rfl, by omega, by omega, by omega, by omega, by unfold Hid; rw [Hu.out, Int.pow_succ], by unfold Hid; rw [Hq.out]; omega⟩
        case measure => simp [intOf]; omega
      · have hje : j = 32 - nbits b := by omega
        have hd : 32 ≤ q ∨ (q < 32 ∧ 4294967296 ≤ u) := by
          have e1 := Hq.out
          have e2 := Hu.out
          by_cases hb : 0 ≤ b
          · left; unfold nbits at hje; omega
          · right
            have e3 : j = 32 := by unfold nbits at hje; omega
            subst e3
            refine ⟨by omega, ?_⟩
            have : (2 : Int) ^ 32 = 4294967296 := by decide
            omega
        have HJ := Lib.hid hje
        clear hje
        have hm : 0 ≤ a % u := Int.emod_nonneg _ (by omega)
        rcases hd with hd | ⟨hd1, hd2⟩
        all_goals
          go_wp2
          all_goals
            go_ret
            refine ⟨ret_bool ?_, rfl⟩
            rw [HQ.out, hs, hi, ← HJ.out, ← Hu.out]
            go_light
            have h31' : decide (31 ≤ b) = false := by simp only [decide_eq_false_iff_not]; omega
            rw [h31']
            clear HQ hi hs Hu Hq HJ
            simp only [Bool.false_or, Bool.and_true, Bool.not_false, bne]
            first | done | simp_all
end Go.Proofs.Ytfepckbhnghpeaa
