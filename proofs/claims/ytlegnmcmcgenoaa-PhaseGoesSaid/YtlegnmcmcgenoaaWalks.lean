/-
  The walks of layer 21: what First, Next, Wait, Word of the program and of the reference compute. Conditions: a flag is a byte.
-/
import Derived.Test.YtlegnmcmcgenoaaRows
import Derived.Test.YtlegnmcmcgenoaaRow
namespace Go.Proofs.Ytlegnmcmcgenoaa
open Go.RowKit

def bt (a : Int) (b : Int) : Bool := bits BinOp.and IntKind.u8 a b != 0
def rb (a : Int) (b : Int) : Bool := (a / b).tmod 2 == 1

def pFirst (a : Int) : Int := if bt a 4 then 5 else if bt a 1 then 3 else if bt a 2 && !bt a 16 then 1 else 2
def rFirst (a : Int) : Int := if rb a 4 then 5 else if rb a 1 then 3 else if rb a 2 && !rb a 16 then 1 else 2
def pNext (p a : Int) : Int :=
  if p < 1 then p else if 3 < p then p else if bt a 4 then 5 else if bt a 1 then 3
  else if bt a 2 && !bt a 16 && p == 3 then 1 else if !(bt a 2 && !bt a 16) && bt a 16 && p == 1 then 2 else p
def rNext (p a : Int) : Int :=
  if p != 1 && p != 2 && p != 3 then p else if rb a 4 then 5 else if rb a 1 then 3
  else if rb a 2 && !rb a 16 then (if p == 3 then 1 else p) else if rb a 16 && p == 1 then 2 else p
def pWait (x1 x2 x3 x4 p : Int) : Int := if p == 1 then x1 else if p == 2 then x2 else if p == 3 then x3 else if p == 4 then x4 else 0

set_option maxHeartbeats 400000 in
theorem has_any (a b : Int) (w : World) :
    Calls Try.prog 14 #[.int .u8 a, .int .u8 b] w fun e w' => e = .returned (.bool (bt a b)) ∧ w = w' := by
  go_enter Try.func14, Try.ntmps14
  go_wp2
  go_ret
  exact ⟨rfl, rfl⟩

set_option maxHeartbeats 400000 in
theorem fresh_any (a : Int) (w : World) :
    Calls Try.prog 15 #[.int .u8 a] w fun e w' => e = .returned (.bool (bt a 2 && !bt a 16)) ∧ w = w' := by
  go_enter Try.func15, Try.ntmps15
  go_wp2_with (first | (go_at_call 14; refine (has_any _ _ _).mono ?_; rintro e w' ⟨rfl, rfl⟩))
  all_goals
    go_ret
    refine ⟨?_, rfl⟩
    simp [*]

set_option maxHeartbeats 400000 in
theorem bit_any (a b : Int) (w : World) (h0 : 0 ≤ a) (h1 : a ≤ 255) (hb0 : 1 ≤ b) (hb1 : b ≤ 128) :
    Calls Try.prog 16 #[.int .u8 a, .int .i64 b] w fun e w' => e = .returned (.bool (rb a b)) ∧ w = w' := by
  go_enter Try.func16, Try.ntmps16
  go_wp2
  go_ret
  exact ⟨rfl, rfl⟩

set_option maxHeartbeats 400000 in
theorem first_any (a : Int) (w : World) :
    Calls Try.prog 6 #[.int .u8 a] w fun e w' => e = .returned (.int .i64 (pFirst a)) ∧ w = w' := by
  go_enter Try.func6, Try.ntmps6
  go_wp2_with (first | (go_at_call 14; refine (has_any _ _ _).mono ?_; rintro e w' ⟨rfl, rfl⟩) | (go_at_call 15; refine (fresh_any _ _).mono ?_; rintro e w' ⟨rfl, rfl⟩))
  all_goals
    go_ret
    refine ⟨ret_int ?_, rfl⟩
    go_light
    grind [pFirst]

set_option maxHeartbeats 400000 in
theorem rfirst_any (a : Int) (w : World) (h0 : 0 ≤ a) (h1 : a ≤ 255) :
    Calls Try.prog 8 #[.int .u8 a] w fun e w' => e = .returned (.int .i64 (rFirst a)) ∧ w = w' := by
  go_enter Try.func8, Try.ntmps8
  go_wp2_with (first | (go_at_call 16; refine (bit_any _ _ _ h0 h1 (by omega) (by omega)).mono ?_; rintro e w' ⟨rfl, rfl⟩))
  all_goals
    go_ret
    refine ⟨?_, rfl⟩
    simp_all [rFirst]

set_option maxHeartbeats 400000 in
theorem next_any (p a : Int) (w : World) :
    Calls Try.prog 7 #[.int .i64 p, .int .u8 a] w fun e w' => e = .returned (.int .i64 (pNext p a)) ∧ w = w' := by
  go_enter Try.func7, Try.ntmps7
  go_wp2_with (first | (go_at_call 14; refine (has_any _ _ _).mono ?_; rintro e w' ⟨rfl, rfl⟩) | (go_at_call 15; refine (fresh_any _ _).mono ?_; rintro e w' ⟨rfl, rfl⟩))
  all_goals
    go_ret
    refine ⟨ret_int ?_, rfl⟩
    go_light
    grind [pNext]

set_option maxHeartbeats 400000 in
theorem rnext_any (p a : Int) (w : World) (h0 : 0 ≤ a) (h1 : a ≤ 255) :
    Calls Try.prog 9 #[.int .i64 p, .int .u8 a] w fun e w' => e = .returned (.int .i64 (rNext p a)) ∧ w = w' := by
  go_enter Try.func9, Try.ntmps9
  go_wp2_with (first | (go_at_call 16; refine (bit_any _ _ _ h0 h1 (by omega) (by omega)).mono ?_; rintro e w' ⟨rfl, rfl⟩))
  all_goals
    go_ret
    refine ⟨?_, rfl⟩
    simp_all [rNext]

set_option maxHeartbeats 400000 in
theorem wait_any (cs : Array Value) (p x1 x2 x3 x4 : Int) (w : World) (h1 : cs[32]? = some (.int .i64 x1)) (h2 : cs[33]? = some (.int .i64 x2)) (h3 : cs[34]? = some (.int .i64 x3)) (h4 : cs[35]? = some (.int .i64 x4)) :
    Calls Try.prog 10 #[.agg cs, .int .i64 p] w fun e w' => e = .returned (.int .i64 (pWait x1 x2 x3 x4 p)) ∧ Below w.heap.size w w' := by
  go_enter Try.func10, Try.ntmps10
  go_wp2
  all_goals
    go_ret
    refine ⟨?_, (Below.refl _ _).alloc (Nat.le_refl _) _⟩
    simp_all [pWait]
set_option maxHeartbeats 400000 in
theorem rwait_any (cs : Array Value) (p x1 x2 x3 x4 : Int) (w : World) (h1 : cs[32]? = some (.int .i64 x1)) (h2 : cs[33]? = some (.int .i64 x2)) (h3 : cs[34]? = some (.int .i64 x3)) (h4 : cs[35]? = some (.int .i64 x4)) :
    Calls Try.prog 11 #[.agg cs, .int .i64 p] w fun e w' => e = .returned (.int .i64 (pWait x1 x2 x3 x4 p)) ∧ Below w.heap.size w w' := by
  have hp : p < 1 ∨ p = 1 ∨ p = 2 ∨ p = 3 ∨ p = 4 ∨ 4 < p := by omega
  rcases hp with h | rfl | rfl | rfl | rfl | h
  all_goals
    go_enter Try.func11, Try.ntmps11
    go_wp2
    go_ret
    first
      | exact ⟨rfl, ((Below.refl _ _).alloc (Nat.le_refl _) _).alloc (by simp) _⟩
      | (refine ⟨ret_int ?_, (Below.refl _ _).alloc (Nat.le_refl _) _⟩; go_light; grind [pWait])

def pWord (p : Int) : ByteArray :=
  if p == 1 then ⟨#[111, 112, 101, 110, 105, 110, 103]⟩ else if p == 2 then ⟨#[111, 112, 101, 110]⟩ else if p == 3 then ⟨#[99, 108, 111, 115, 105, 110, 103]⟩
  else if p == 4 then ⟨#[108, 111, 111, 115, 101]⟩ else if p == 5 then ⟨#[103, 111, 110, 101]⟩ else ⟨#[]⟩

set_option maxHeartbeats 400000 in
theorem word_any (p : Int) (w : World) :
    Calls Try.prog 12 #[.int .i64 p] w fun e w' => e = .returned (.string (pWord p)) ∧ Below w.heap.size w w' := by
  have hp : p < 0 ∨ p = 0 ∨ p = 1 ∨ p = 2 ∨ p = 3 ∨ p = 4 ∨ p = 5 ∨ 5 < p := by omega
  rcases hp with h | rfl | rfl | rfl | rfl | rfl | rfl | h
  all_goals
    go_enter Try.func12, Try.ntmps12
    go_wp2
    go_ret
    first
      | exact ⟨rfl, (Below.refl _ _).alloc (Nat.le_refl _) _⟩
      | (refine ⟨ret_str ?_, (Below.refl _ _).alloc (Nat.le_refl _) _⟩; go_light; grind [pWord])

set_option maxHeartbeats 400000 in
theorem rword_any (p : Int) (w : World) :
    Calls Try.prog 13 #[.int .i64 p] w fun e w' => e = .returned (.string (pWord p)) ∧ Below w.heap.size w w' := by
  have hp : p < 1 ∨ p = 1 ∨ p = 2 ∨ p = 3 ∨ p = 4 ∨ p = 5 ∨ 5 < p := by omega
  rcases hp with h | rfl | rfl | rfl | rfl | rfl | h
  all_goals
    go_enter Try.func13, Try.ntmps13
    go_wp2
    go_ret
    first
      | exact ⟨rfl, (Below.refl _ _).alloc (Nat.le_refl _) _⟩
      | (refine ⟨ret_str ?_, Below.refl _ _⟩; go_light; grind [pWord])

set_option maxHeartbeats 400000 in
theorem lives_any (w : World) :
    Calls Try.prog 5 #[] w fun e w' => e = .returned (.bool true) ∧ Below w.heap.size w w' := by
  go_enter Try.func5, Try.ntmps5
  go_wp2
  go_ret
  exact ⟨rfl, (Below.refl _ _).alloc (Nat.le_refl _) _⟩

end Go.Proofs.Ytlegnmcmcgenoaa
