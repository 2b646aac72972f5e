/-
  span.Ahead, Within, New, Base, pieces: what they answer. Conditions: numbers are u32.
-/
import Derived.Test.YtclkaacdbhbigaaProg
import Derived.LoopTactic
import Derived.Handy
import Derived.Test.YtclkaacdbhbigaaPush
namespace Go.Proofs.Ytclkaacdbhbigaa
open Go.RowKit

def aheadB (a b : Int) : Bool := decide (0 < (b - a) % 4294967296) && decide ((b - a) % 4294967296 < 2147483648)

theorem ahead_any (a b : Int) (w : World) (_a0 : 0 ≤ a) (_a1 : a ≤ 4294967295) (_b0 : 0 ≤ b) (_b1 : b ≤ 4294967295) :
    Calls Try.prog 7 #[.int .u32 a, .int .u32 b] w fun e w' => e = .returned (.bool (aheadB a b)) ∧ w = w' := by
  go_enter Try.func7, Try.ntmps7
  go_wp2
  all_goals
    go_ret
    refine ⟨ret_bool ?_, rfl⟩
    simp [aheadB, *] <;> omega

theorem within_any (x f n : Int) (w : World) (_a0 : 0 ≤ x) (_a1 : x ≤ 4294967295) (_b0 : 0 ≤ f) (_b1 : f ≤ 4294967295) :
    Calls Try.prog 8 #[.int .u32 x, .int .u32 f, .int .u32 n] w fun e w' => e = .returned (.bool (decide ((x - f) % 4294967296 < n))) ∧ w = w' := by
  go_enter Try.func8, Try.ntmps8
  go_wp2
  go_ret
  exact ⟨rfl, rfl⟩

theorem new_any (b : Int) (w : World) :
    Calls Try.prog 10 #[.int .u32 b] w fun e w' => e = .returned (.pointer (some ⟨w.heap.size, 0, none⟩)) ∧ w.alloc (.cells #[.int .u32 b, .slice none 0 0] 57) = w' := by
  go_enter Try.func10, Try.ntmps10
  go_wp2
  go_ret
  exact ⟨rfl, rfl⟩
end Go.Proofs.Ytclkaacdbhbigaa
