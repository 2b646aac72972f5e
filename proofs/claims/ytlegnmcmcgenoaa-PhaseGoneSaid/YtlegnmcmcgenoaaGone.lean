/-
  The law PhaseGone of layer 21: its walk. No condition.
-/
import Derived.Test.YtlegnmcmcgenoaaPlain
import Derived.LoopTactic
namespace Go.Proofs.Ytlegnmcmcgenoaa
open Go.RowKit

theorem rst_tdiv (a : Int) (h : 0 ≤ a) : (a.tdiv 4 % 2 == 1) = rstOf a := by
  unfold rstOf; rw [Int.tdiv_eq_ediv_of_nonneg h]

set_option maxHeartbeats 400000 in
theorem gone_empty (a : Option Addr) (cap : Nat) (w : World) :
    Calls Try.prog 3 #[.slice a 0 cap] w fun e w' => e = .returned (.bool true) ∧ Below w.heap.size w w' := by
  go_enter Try.func3, Try.ntmps3
  go_wp2_with (first | (go_at_call 5; refine (lives_any _).mono ?_; rintro e w' ⟨rfl, hb⟩))
  go_ret
  exact ⟨rfl, by assumption⟩

set_option maxHeartbeats 1000000 in
theorem gone_some (b off len cap : Nat) (zs : List Int) (w : World) (h0 : 1 ≤ len) (h60 : len ≤ 60) (hlen : len ≤ zs.length)
    (hcell : ∀ i, i < zs.length → w.cell? ⟨b, off + i, none⟩ = some (.int .u8 (zs.getD i 0))) (hz : ∀ i : Nat, 0 ≤ zs[i]?.getD 0 ∧ zs[i]?.getD 0 ≤ 255) :
    Calls Try.prog 3 #[.slice (some ⟨b, off, none⟩) len cap] w fun e w' => e = .returned (.bool true) ∧ Below w.heap.size w w' := by
  have hc0 : w.cell? ⟨b, off, none⟩ = some (.int .u8 (zs.getD 0 0)) := hcell 0 (by omega)
  obtain ⟨hz0, hz1⟩ := hz 0
  have hok := first_ok _ hz0 hz1
  have Hok := Lib.hid hok
  have Hz := Lib.hid hz
  clear hok hz
  go_enter Try.func3, Try.ntmps3
  go_wp2_with (first | (go_at_call 6; refine (first_any _ _).mono ?_; rintro e w' ⟨rfl, rfl⟩))
  go_loop [3, 4, 5] (fun r p i => ∃ (k : Nat) (b : Bool) (q : Int), 1 ≤ k ∧ k ≤ len ∧ i = .int .i64 k ∧ r = .bool b ∧ p = .int .i64 q ∧ okPhase q b) (fun _ _ i => len - (intOf i).toNat)
  case atStart => exact ⟨1, _, _, Nat.le_refl _, h0, rfl, rfl, rfl, Hok.out⟩
  case round =>
    obtain ⟨k, b, q, hk1, hk, rfl, rfl, rfl, hq⟩ := hrel
    have Hq := Lib.hid hq
    by_cases hlt : k < len
    · have hck := hcell k (by omega)
      obtain ⟨hzk0, hzk1⟩ := Hz.out k
      rcases hq with ⟨rfl, rfl⟩ | ⟨rfl, rfl⟩ | ⟨rfl, rfl⟩ | ⟨rfl, rfl⟩
      all_goals
        go_wp2_with (first | (go_at_call 7; refine (next_any _ _ _).mono ?_; rintro e w' ⟨rfl, rfl⟩))
        go_round
        case rel => exact ⟨k + 1, _, _, by omega, by omega, by go_num, rfl, rfl, next_ok _ _ _ Hq.out hzk0 hzk1⟩
        case measure => simp [intOf]; omega
    · rcases hq with ⟨rfl, rfl⟩ | ⟨rfl, rfl⟩ | ⟨rfl, rfl⟩ | ⟨rfl, rfl⟩
      all_goals
        go_wp2_with (first | (go_at_call 5; refine (lives_any _).mono ?_; rintro e w' ⟨rfl, hb⟩))
        go_ret
        exact ⟨rfl, by assumption⟩
set_option maxHeartbeats 1000000 in
theorem gone_long (b off len cap : Nat) (zs : List Int) (w : World) (h60 : 60 < len) (hcap : len ≤ cap) (hlen : len ≤ zs.length)
    (hcell : ∀ i, i < zs.length → w.cell? ⟨b, off + i, none⟩ = some (.int .u8 (zs.getD i 0))) (hz : ∀ i : Nat, 0 ≤ zs[i]?.getD 0 ∧ zs[i]?.getD 0 ≤ 255) :
    Calls Try.prog 3 #[.slice (some ⟨b, off, none⟩) len cap] w fun e w' => e = .returned (.bool true) ∧ Below w.heap.size w w' := by
  have hc0 : w.cell? ⟨b, off, none⟩ = some (.int .u8 (zs.getD 0 0)) := hcell 0 (by omega)
  obtain ⟨hz0, hz1⟩ := hz 0
  have hok := first_ok _ hz0 hz1
  have Hok := Lib.hid hok
  have Hz := Lib.hid hz
  clear hok hz
  go_enter Try.func3, Try.ntmps3
  go_wp2_with (first | (go_at_call 6; refine (first_any _ _).mono ?_; rintro e w' ⟨rfl, rfl⟩))
  go_loop [3, 4, 5] (fun r p i => ∃ (k : Nat) (b : Bool) (q : Int), 1 ≤ k ∧ k ≤ 60 ∧ i = .int .i64 k ∧ r = .bool b ∧ p = .int .i64 q ∧ okPhase q b) (fun _ _ i => 60 - (intOf i).toNat)
  case atStart => exact ⟨1, _, _, Nat.le_refl _, by omega, rfl, rfl, rfl, Hok.out⟩
  case round =>
    obtain ⟨k, b, q, hk1, hk, rfl, rfl, rfl, hq⟩ := hrel
    have Hq := Lib.hid hq
    by_cases hlt : k < 60
    · have hck := hcell k (by omega)
      obtain ⟨hzk0, hzk1⟩ := Hz.out k
      rcases hq with ⟨rfl, rfl⟩ | ⟨rfl, rfl⟩ | ⟨rfl, rfl⟩ | ⟨rfl, rfl⟩
      all_goals
        go_wp2_with (first | (go_at_call 7; refine (next_any _ _ _).mono ?_; rintro e w' ⟨rfl, rfl⟩))
        go_round
        case rel => exact ⟨k + 1, _, _, by omega, by omega, by go_num, rfl, rfl, next_ok _ _ _ Hq.out hzk0 hzk1⟩
        case measure => simp [intOf]; omega
    · rcases hq with ⟨rfl, rfl⟩ | ⟨rfl, rfl⟩ | ⟨rfl, rfl⟩ | ⟨rfl, rfl⟩
      all_goals
        go_wp2_with (first | (go_at_call 5; refine (lives_any _).mono ?_; rintro e w' ⟨rfl, hb⟩))
        go_ret
        exact ⟨rfl, by assumption⟩
end Go.Proofs.Ytlegnmcmcgenoaa
