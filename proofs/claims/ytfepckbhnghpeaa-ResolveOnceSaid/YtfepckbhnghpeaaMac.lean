/-
  Equality of Ethernet addresses; Unicast of the program and of the reference; numbers within bounds. Conditions: bytes are bytes.
-/
import Derived.Test.YtfepckbhnghpeaaRow
import Derived.Deep.QuietTactic
import Derived.BigQuiet
import Derived.Test.YtfepckbhnghpeaaProg
import Derived.Test.YtfepckbhnghpeaaEq
import Derived.Laws.BitsAllLaws
import Derived.LoopTactic
import Derived.Handy
namespace Go.Proofs.Ytfepckbhnghpeaa
open Go.RowKit

def macEq (a0 a1 a2 a3 a4 a5 b0 b1 b2 b3 b4 b5 : Int) : Bool := a0 == b0 && a1 == b1 && a2 == b2 && a3 == b3 && a4 == b4 && a5 == b5
def uniB (a0 a1 a2 a3 a4 a5 : Int) : Bool := a0 % 2 == 0 && !macEq a0 a1 a2 a3 a4 a5 0 0 0 0 0 0

theorem eqin_mac (a0 a1 a2 a3 a4 a5 b0 b1 b2 b3 b4 b5 : Int) (w : World) :
    (Op.equalIn 10000 23 (.agg #[.int .u8 a0, .int .u8 a1, .int .u8 a2, .int .u8 a3, .int .u8 a4, .int .u8 a5]) (.agg #[.int .u8 b0, .int .u8 b1, .int .u8 b2, .int .u8 b3, .int .u8 b4, .int .u8 b5])).run Try.prog w
      = .ok (macEq a0 a1 a2 a3 a4 a5 b0 b1 b2 b3 b4 b5) w := by
  have h := run_eq_plain (P := Try.prog) w (d := 3) (t := 23) (by kernel_rfl) (by kernel_rfl) (by omega) [.int .u8 a0, .int .u8 a1, .int .u8 a2, .int .u8 a3, .int .u8 a4, .int .u8 a5] [.int .u8 b0, .int .u8 b1, .int .u8 b2, .int .u8 b3, .int .u8 b4, .int .u8 b5]
    (by rw [show cellTys Try.prog 3 23 = [5, 5, 5, 5, 5, 5] by kernel_rfl]; simp [pairsOk, pairOk, Try.underlying5])
  rw [h]
  simp [eqCells, cellEq, macEq, Bool.and_assoc]

theorem guard_mac (op : BinOp) (x y : Operand) (xs ys : Array Value) (w : World) : (eqGuard op 23 x y (.agg xs) (.agg ys)).run Try.prog w = .ok () w :=
  run_eqGuard_agg w op 23 x y xs ys (by kernel_rfl)

attribute [local go_sem] eqin_mac guard_mac

set_option maxHeartbeats 400000 in
theorem runi_any (a0 a1 a2 a3 a4 a5 : Int) (w : World) (h0 : 0 ≤ a0) (h1 : a0 ≤ 255) :
    Calls Try.prog 16 #[.agg #[.int .u8 a0, .int .u8 a1, .int .u8 a2, .int .u8 a3, .int .u8 a4, .int .u8 a5]] w fun e w' => e = .returned (.bool (uniB a0 a1 a2 a3 a4 a5)) ∧ Below w.heap.size w w' := by
  go_enter Try.func16, Try.ntmps16
  go_wp2
  all_goals
    go_ret
    refine ⟨ret_bool ?_, by go_grown⟩
    go_light
    unfold uniB
    simp_all

def allIn (lo hi : Int) (f : Nat → Int) (n : Nat) : Bool := (List.range n).all fun i => decide (lo ≤ f i) && decide (f i ≤ hi)

theorem allIn_succ (lo hi : Int) (f : Nat → Int) (n : Nat) : allIn lo hi f (n + 1) = (allIn lo hi f n && decide (lo ≤ f n) && decide (f n ≤ hi)) := by
  simp [allIn, List.range_succ, Bool.and_assoc]


set_option maxHeartbeats 1000000 in
theorem all_any (lo hi : Int) (b o len cap : Nat) (f : Nat → Int) (w : World) (h100 : len ≤ 100)
    (hc : ∀ i, i < len → w.cell? ⟨b, o + i, none⟩ = some (.int .i64 (f i))) :
    Calls Try.prog 17 #[.slice (some ⟨b, o, none⟩) len cap, .int .i64 lo, .int .i64 hi] w fun e w' => e = .returned (.bool (allIn lo hi f len)) ∧ w = w' := by
  go_enter Try.func17, Try.ntmps17
  go_wp2
  go_loop [7, 8] (fun r i => ∃ (k : Nat) (q : Bool), k ≤ len ∧ i = .int .i64 k ∧ r = .bool q ∧ Hid (q = allIn lo hi f k)) (fun _ i => len - (intOf i).toNat)
  case atStart => exact ⟨0, true, by omega, rfl, rfl, rfl⟩
  case round =>
    obtain ⟨k, q, hk, rfl, rfl, Hq⟩ := hrel
    by_cases hlt : k < len
    · have hck := hc k hlt
      have HS := Lib.hid (allIn_succ lo hi f k)
      cases q
      · go_wp2
        go_round
        case rel => exact ⟨k + 1, _, by omega, by go_num, rfl, by unfold Hid; rw [HS.out, ← Hq.out]; rfl⟩
        case measure => simp [intOf]; omega
      · by_cases h1 : lo ≤ f k
        · by_cases h2 : f k ≤ hi
          all_goals
            go_wp2
            go_round
            case rel => exact ⟨k + 1, _, by omega, by go_num, rfl, by unfold Hid; rw [HS.out, ← Hq.out]; simp [h1, h2]⟩
            case measure => simp [intOf]; omega
        · go_wp2
          go_round
          case rel => exact ⟨k + 1, _, by omega, by go_num, rfl, by unfold Hid; rw [HS.out, ← Hq.out]; simp [h1]⟩
          case measure => simp [intOf]; omega
    · obtain rfl : k = len := by omega
      go_wp2
      go_ret
      exact ⟨ret_bool Hq.out, rfl⟩
end Go.Proofs.Ytfepckbhnghpeaa
