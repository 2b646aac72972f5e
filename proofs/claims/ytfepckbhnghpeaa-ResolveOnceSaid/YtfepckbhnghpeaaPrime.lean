/-
  The walks of Prime of layer 18, of the program and of the reference. Condition: none beyond an int's bounds.
-/
import Derived.Test.YtfepckbhnghpeaaRow
import Derived.Test.YtfepckbhnghpeaaProg
import Derived.LoopTactic
import Derived.Handy
namespace Go.Proofs.Ytfepckbhnghpeaa
open Go.RowKit

def primeN (n : Nat) : Bool := decide (2 ≤ n) && decide (n ≤ 251) && (List.range n).all fun d => decide (d < 2) || n % d != 0
def primeB (m : Int) : Bool := decide (0 ≤ m) && primeN m.toNat
theorem primeB_small (m : Int) (h : m < 2 ∨ 251 < m) : primeB m = false := by
  unfold primeB primeN
  by_cases h0 : 0 ≤ m
  · have : ¬ (2 ≤ m.toNat ∧ m.toNat ≤ 251) := by omega
    by_cases h1 : 2 ≤ m.toNat
    · have h2 : ¬ m.toNat ≤ 251 := fun h2 => this ⟨h1, h2⟩
      simp [h2]
    · simp [h1]
  · simp [h0]

theorem primeB_no (n d : Nat) (h2 : 2 ≤ d) (hd : d < n) (h : n % d = 0) : primeB n = false := by
  unfold primeB primeN
  simp only [Int.toNat_natCast]
  have : ((List.range n).all fun d => decide (d < 2) || n % d != 0) = false := by
    rw [List.all_eq_false]
    exact ⟨d, List.mem_range.2 hd, by simp [h]; omega⟩
  rw [this]; simp

theorem primeB_yes (n : Nat) (h2 : 2 ≤ n) (h251 : n ≤ 251) (h : ∀ e, 2 ≤ e → e < n → ¬ n % e = 0) : primeB n = true := by
  unfold primeB primeN
  simp only [Int.toNat_natCast, Bool.and_eq_true, decide_eq_true_eq, List.all_eq_true, List.mem_range]
  refine ⟨by omega, ⟨h2, h251⟩, fun d hd => ?_⟩
  by_cases hd2 : d < 2
  · simp [hd2]
  · simp [h d (by omega) hd]

set_option maxHeartbeats 1000000 in
theorem rprime_any (m : Int) (w : World) :
    Calls Try.prog 20 #[.int .i64 m] w fun e w' => e = .returned (.bool (primeB m)) ∧ w = w' := by
  by_cases hm : m < 2 ∨ 251 < m
  · have hp := primeB_small m hm
    have Hp := Lib.hid hp
    clear hp
    rcases hm with hm | hm
    · go_enter Try.func20, Try.ntmps20
      go_wp2
      go_ret
      exact ⟨ret_bool Hp.out.symm, rfl⟩
    · have hm2 : ¬ m < 2 := by omega
      go_enter Try.func20, Try.ntmps20
      go_wp2
      go_ret
      exact ⟨ret_bool Hp.out.symm, rfl⟩
  · obtain ⟨n, rfl⟩ := Int.eq_ofNat_of_zero_le (show 0 ≤ m by omega)
    have h2 : 2 ≤ n := by omega
    have h251 : n ≤ 251 := by omega
    have h2' : (2 : Int) ≤ n := by omega
    have h251' : (n : Int) ≤ 251 := by omega
    clear hm
    go_enter Try.func20, Try.ntmps20
    go_wp2
    go_loop [3] (fun i => ∃ d : Nat, 2 ≤ d ∧ d ≤ n ∧ i = .int .i64 d ∧ Hid (∀ e, 2 ≤ e → e < d → ¬ n % e = 0)) (fun i => n - (intOf i).toNat)
    case atStart => exact ⟨2, by omega, by omega, rfl, fun e h1 h2 => by omega⟩
    case round =>
      obtain ⟨d, hd2, hdn, rfl, He⟩ := hrel
      by_cases hlt : d < n
      · have hmodc : ((n : Int) % (d : Int)) = ((n % d : Nat) : Int) := by omega
        have HM := Lib.hid hmodc
        clear hmodc
        by_cases hz : n % d = 0
        · have hz' : ((n : Int) % (d : Int) == 0) = true := by rw [HM.out, hz]; rfl
          have Hz := Lib.hid hz
          clear hz
          go_wp2
          go_ret
          exact ⟨ret_bool (primeB_no n d hd2 hlt Hz.out).symm, rfl⟩
        · have hz' : ((n : Int) % (d : Int) == 0) = false := by rw [HM.out, beq_eq_false_iff_ne]; omega
          have Hz := Lib.hid hz
          clear hz
          go_wp2
          go_round
          case rel => exact ⟨d + 1, by omega, by omega, by go_num, fun e h1 h2 => by rcases Nat.lt_succ_iff_lt_or_eq.1 h2 with h | rfl; exact He.out e h1 h; exact Hz.out⟩
          case measure => simp [intOf]; omega
      · obtain rfl : d = n := by omega
        go_wp2
        go_ret
        exact ⟨ret_bool (primeB_yes d h2 h251 He.out).symm, rfl⟩
end Go.Proofs.Ytfepckbhnghpeaa
