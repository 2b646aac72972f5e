/-
  Equality of Ethernet addresses; Unicast of the program and of the reference; numbers within bounds. Conditions: bytes are bytes.
-/
import Derived.Test.YtejkambjfcpagaaCalm
import Derived.Test.YtejkambjfcpagaaProg
import Derived.Test.YtejkambjfcpagaaEq
import Derived.Laws.BitsAllLaws
import Derived.LoopTactic
import Derived.Handy
namespace Go.Proofs.Ytejkambjfcpagaa
open Go.RowKit

def macEq (a0 a1 a2 a3 a4 a5 b0 b1 b2 b3 b4 b5 : Int) : Bool := a0 == b0 && a1 == b1 && a2 == b2 && a3 == b3 && a4 == b4 && a5 == b5
def uniB (a0 a1 a2 a3 a4 a5 : Int) : Bool := a0 % 2 == 0 && !macEq a0 a1 a2 a3 a4 a5 0 0 0 0 0 0

theorem eqin_mac (a0 a1 a2 a3 a4 a5 b0 b1 b2 b3 b4 b5 : Int) (w : World) :
    (Op.equalIn 10000 23 (.agg #[.int .u8 a0, .int .u8 a1, .int .u8 a2, .int .u8 a3, .int .u8 a4, .int .u8 a5]) (.agg #[.int .u8 b0, .int .u8 b1, .int .u8 b2, .int .u8 b3, .int .u8 b4, .int .u8 b5])).run Try.prog w
      = .ok (macEq a0 a1 a2 a3 a4 a5 b0 b1 b2 b3 b4 b5) w := by
  have h := run_eq_plain (P := Try.prog) w (d := 3) (t := 23) (by kernel_rfl) (by kernel_rfl) (by omega) [.int .u8 a0, .int .u8 a1, .int .u8 a2, .int .u8 a3, .int .u8 a4, .int .u8 a5] [.int .u8 b0, .int .u8 b1, .int .u8 b2, .int .u8 b3, .int .u8 b4, .int .u8 b5]
    (by rw [show cellTys Try.prog 3 23 = [5, 5, 5, 5, 5, 5] by kernel_rfl]; simp [pairsOk, pairOk, Try.underlying5])
  rw [h]
  simp [eqCells, cellEq, macEq, Bool.and_assoc]

theorem guard_mac (op : BinOp) (x y : Operand) (xs ys : Array Value) (w : World) : (eqGuard op 23 x y (.agg xs) (.agg ys)).run Try.prog w = .ok () w :=
  run_eqGuard_agg w op 23 x y xs ys (by kernel_rfl)

attribute [local go_sem] eqin_mac guard_mac

theorem and_one (a : Int) (h0 : 0 ≤ a) (h1 : a ≤ 255) : bits .and .u8 a 1 = a % 2 := by
  rw [u8_and a 1 h0 (by omega) (by omega) (by omega)]
  have : a.toNat &&& (1 : Int).toNat = a.toNat % 2 := Nat.and_two_pow_sub_one_eq_mod a.toNat 1
  rw [this]; omega

set_option maxHeartbeats 400000 in
theorem uni_any (a0 a1 a2 a3 a4 a5 : Int) (w : World) (h0 : 0 ≤ a0) (h1 : a0 ≤ 255) :
    Calls Try.prog 22 #[.agg #[.int .u8 a0, .int .u8 a1, .int .u8 a2, .int .u8 a3, .int .u8 a4, .int .u8 a5]] w fun e w' => e = .returned (.bool (uniB a0 a1 a2 a3 a4 a5)) ∧ Below w.heap.size w w' := by
  have e1 := and_one a0 h0 h1
  go_enter Try.func22, Try.ntmps22
  go_wp2
  all_goals
    go_ret
    refine ⟨ret_bool ?_, by go_grown⟩
    go_light
    unfold uniB
    grind

set_option maxHeartbeats 400000 in
theorem runi_any (a0 a1 a2 a3 a4 a5 : Int) (w : World) (h0 : 0 ≤ a0) (h1 : a0 ≤ 255) :
    Calls Try.prog 15 #[.agg #[.int .u8 a0, .int .u8 a1, .int .u8 a2, .int .u8 a3, .int .u8 a4, .int .u8 a5]] w fun e w' => e = .returned (.bool (uniB a0 a1 a2 a3 a4 a5)) ∧ Below w.heap.size w w' := by
  go_enter Try.func15, Try.ntmps15
  go_wp2
  all_goals
    go_ret
    refine ⟨ret_bool ?_, by go_grown⟩
    go_light
    unfold uniB
    simp_all

/-- The first n numbers are within bounds. -/
def allIn (lo hi : Int) (f : Nat → Int) (n : Nat) : Bool := (List.range n).all fun i => decide (lo ≤ f i) && decide (f i ≤ hi)

theorem allIn_no {lo hi : Int} {f : Nat → Int} {n k : Nat} (hk : k < n) (h : f k < lo ∨ hi < f k) : allIn lo hi f n = false := by
  unfold allIn
  rw [List.all_eq_false]
  refine ⟨k, List.mem_range.2 hk, ?_⟩
  simp only [Bool.and_eq_true, decide_eq_true_eq]
  omega
theorem allIn_yes {lo hi : Int} {f : Nat → Int} {n : Nat} (h : ∀ k, k < n → lo ≤ f k ∧ f k ≤ hi) : allIn lo hi f n = true := by
  unfold allIn
  rw [List.all_eq_true]
  intro k hk
  have := h k (List.mem_range.1 hk)
  simp [this]
theorem allIn_succ (lo hi : Int) (f : Nat → Int) (n : Nat) : allIn lo hi f (n + 1) = (allIn lo hi f n && decide (lo ≤ f n) && decide (f n ≤ hi)) := by
  simp [allIn, List.range_succ, Bool.and_assoc]

set_option maxHeartbeats 1000000 in
theorem within_any (lo hi : Int) (b o len cap : Nat) (f : Nat → Int) (w : World) (h100 : len ≤ 100)
    (hc : ∀ i, i < len → w.cell? ⟨b, o + i, none⟩ = some (.int .i64 (f i))) :
    Calls Try.prog 12 #[.int .i64 lo, .int .i64 hi, .slice (some ⟨b, o, none⟩) len cap] w fun e w' => e = .returned (.bool (allIn lo hi f len)) ∧ w = w' := by
  go_enter Try.func12, Try.ntmps12
  go_wp2
  go_loop [11] (fun i => ∃ k : Nat, k ≤ len ∧ i = .int .i64 k ∧ Hid (∀ j, j < k → lo ≤ f j ∧ f j ≤ hi)) (fun i => len - (intOf i).toNat)
  case atStart => exact ⟨0, by omega, rfl, fun j hj => by omega⟩
  case round =>
    obtain ⟨k, hk, rfl, Hk⟩ := hrel
    by_cases hlt : k < len
    · have hck := hc k hlt
      by_cases h1 : f k < lo
      · go_wp2
        go_ret
        exact ⟨ret_bool (allIn_no hlt (.inl h1)).symm, rfl⟩
      · by_cases h2 : hi < f k
        · go_wp2
          go_ret
          exact ⟨ret_bool (allIn_no hlt (.inr h2)).symm, rfl⟩
        · go_wp2
          go_round
          case rel => exact ⟨k + 1, by omega, by go_num, fun j hj => by rcases Nat.lt_succ_iff_lt_or_eq.1 hj with h | rfl; exact Hk.out j h; exact ⟨by omega, by omega⟩⟩
          case measure => simp [intOf]; omega
    · obtain rfl : k = len := by omega
      go_wp2
      go_ret
      exact ⟨ret_bool (allIn_yes Hk.out).symm, rfl⟩

set_option maxHeartbeats 1000000 in
theorem all_any (lo hi : Int) (b o len cap : Nat) (f : Nat → Int) (w : World) (h100 : len ≤ 100)
    (hc : ∀ i, i < len → w.cell? ⟨b, o + i, none⟩ = some (.int .i64 (f i))) :
    Calls Try.prog 16 #[.slice (some ⟨b, o, none⟩) len cap, .int .i64 lo, .int .i64 hi] w fun e w' => e = .returned (.bool (allIn lo hi f len)) ∧ w = w' := by
  go_enter Try.func16, Try.ntmps16
  go_wp2
  go_loop [7, 8] (fun r i => ∃ (k : Nat) (q : Bool), k ≤ len ∧ i = .int .i64 k ∧ r = .bool q ∧ Hid (q = allIn lo hi f k)) (fun _ i => len - (intOf i).toNat)
  case atStart => exact ⟨0, true, by omega, rfl, rfl, rfl⟩
  case round =>
    obtain ⟨k, q, hk, rfl, rfl, Hq⟩ := hrel
    by_cases hlt : k < len
    · have hck := hc k hlt
      have HS := Lib.hid (allIn_succ lo hi f k)
      cases q
      · go_wp2
        go_round
        case rel => exact ⟨k + 1, _, by omega, by go_num, rfl, by unfold Hid; rw [HS.out, ← Hq.out]; rfl⟩
        case measure => simp [intOf]; omega
      · by_cases h1 : lo ≤ f k
        · by_cases h2 : f k ≤ hi
          all_goals
            go_wp2
            go_round
            case rel => exact ⟨k + 1, _, by omega, by go_num, rfl, by unfold Hid; rw [HS.out, ← Hq.out]; simp [h1, h2]⟩
            case measure => simp [intOf]; omega
        · go_wp2
          go_round
          case rel => exact ⟨k + 1, _, by omega, by go_num, rfl, by unfold Hid; rw [HS.out, ← Hq.out]; simp [h1]⟩
          case measure => simp [intOf]; omega
    · obtain rfl : k = len := by omega
      go_wp2
      go_ret
      exact ⟨ret_bool Hq.out, rfl⟩
end Go.Proofs.Ytejkambjfcpagaa
