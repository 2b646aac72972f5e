/-
  The law PhaseGoes of layer 21: its walk. Conditions: a flag is a byte.
-/
import Derived.Test.YtlegnmcmcgenoaaWalks
namespace Go.Proofs.Ytlegnmcmcgenoaa
open Go.RowKit

theorem config_veil (v : Value) : Instr.loadAt 38 v = rowSem 38 v := rfl
attribute [local go_sem ↓] config_veil

set_option maxHeartbeats 1000000 in
theorem goes_any (cs : Array Value) (p f x1 x2 x3 x4 : Int) (w : World) (hn : cs.size = 40) (h1 : cs[32]? = some (.int .i64 x1)) (h2 : cs[33]? = some (.int .i64 x2)) (h3 : cs[34]? = some (.int .i64 x3)) (h4 : cs[35]? = some (.int .i64 x4))
    (hf0 : 0 ≤ f) (hf1 : f ≤ 255) (e1 : (pFirst f == rFirst f) = true) (e2 : (pNext p f == rNext p f) = true) :
    Calls Try.prog 4 #[.agg cs, .int .i64 p, .int .u8 f] w fun e w' => e = .returned (.bool true) ∧ Below w.heap.size w w' := by
  have hi : (Try.prog.info? 38).map (·.size) = some cs.toList.length := by rw [Array.length_toList, hn]; kernel_rfl
  go_enter Try.func4, Try.ntmps4
  go_wp2_with fail
  have hr := range_all w cs 38
  have hb0 := (Below.refl w.heap.size w).alloc (Nat.le_refl _) (.cells cs 38)
  have hro : ∀ w' : World, w'.rangeAt w.heap.size 0 cs.toList → (rowSem 38 (.pointer (some ⟨w.heap.size, 0, none⟩))).run Try.prog w' = .ok (.agg cs) w' := fun w' h => rowSem_range h Try.underlying38 rfl hi
  have Hro := Lib.hid hro
  clear hro hi
  go_region_held3 (fun w' => ((rowSem 38 (.pointer (some ⟨w.heap.size, 0, none⟩))).run Try.prog w' = .ok (.agg cs) w') ∧ w'.rangeAt w.heap.size 0 cs.toList ∧ Below w.heap.size w w') ((go_split_ands; refine and_assoc.1 ⟨(fun h => ⟨Hro.out _ h, h⟩) ?_, ?_⟩; (first | assumption | exact (World.rangeAt_drew _ _ _ _).2 (by assumption) | exact range_below (by assumption) (by assumption)); (first | assumption | exact Below.drew (by assumption) | exact below_step (by assumption) (by assumption))))
    (first
       | (go_at_call 6; refine (first_any _ _).mono ?_; rintro e w' ⟨rfl, rfl⟩)
       | (go_at_call 8; refine (rfirst_any _ _ hf0 hf1).mono ?_; rintro e w' ⟨rfl, rfl⟩)
       | (go_at_call 7; refine (next_any _ _ _).mono ?_; rintro e w' ⟨rfl, rfl⟩)
       | (go_at_call 9; refine (rnext_any _ _ _ hf0 hf1).mono ?_; rintro e w' ⟨rfl, rfl⟩)
       | (go_at_call 10; refine (wait_any _ _ _ _ _ _ _ h1 h2 h3 h4).mono ?_; rintro e w' ⟨rfl, hb⟩)
       | (go_at_call 11; refine (rwait_any _ _ _ _ _ _ _ h1 h2 h3 h4).mono ?_; rintro e w' ⟨rfl, hb⟩)
       | (go_at_call 12; refine (word_any _ _).mono ?_; rintro e w' ⟨rfl, hb⟩)
       | (go_at_call 13; refine (rword_any _ _).mono ?_; rintro e w' ⟨rfl, hb⟩)
       | (go_at_call 5; refine (lives_any _).mono ?_; rintro e w' ⟨rfl, hb⟩))
  go_wp2
  go_ret
  exact ⟨rfl, by go_split_ands; assumption⟩
end Go.Proofs.Ytlegnmcmcgenoaa
