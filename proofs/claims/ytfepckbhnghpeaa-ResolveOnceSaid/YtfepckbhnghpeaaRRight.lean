/-
  The walk of the reference's Right (layer 25). Written by program (gen_rright.py). Conditions: the configuration's cells are numbers of their kinds.
-/
import Derived.Test.YtfepckbhnghpeaaRight
import Derived.Test.YtfepckbhnghpeaaPlan
namespace Go.Proofs.Ytfepckbhnghpeaa
open Go.RowKit

def bitsF (z : Nat → Int) (i : Nat) : Int := [z 14, z 15].getD i 0
def rightR (z : Nat → Int) : Bool :=
  uni0 z && uni1 z && !macsEq z && allIn 8 30 (bitsF z) 2 && hostB (z 12) (z 12) (z 14) && hostB (z 13) (z 13) (z 15) && !inB (z 12) (z 13) (z 15) && !inB (z 13) (z 12) (z 14) &&
  hostB (z 16) (z 12) (z 14) && z 16 != z 12 && z 22 != 0 && primeB (z 23) && allIn 1 4095 (ticksF z) 8 && allIn 1 100 (timesF z) 3 && allIn 576 1500 (fun _ => z 17) 1 &&
  allIn 1 256 (fun _ => z 24) 1 && allIn 1 64 (fun _ => z 25) 1 && allIn 0 256 (fun _ => z 26) 1 && allIn 0 32 (fun _ => z 27) 1 && allIn 0 64 (fun _ => z 28) 1

attribute [local go_sem] eqin_mac guard_mac

set_option maxRecDepth 100000 in
set_option maxHeartbeats 16000000 in
theorem rright_any (cs : Array Value) (z : Nat → Int) (w : World) (hz : IsConf cs z) :
    Calls Try.prog 4 #[.agg cs] w fun e w' => e = .returned (.bool (rightR z)) ∧ Below w.heap.size w w' := by
  obtain ⟨w0, v0⟩ := wf_u8 (hz.wf 0 _ rfl)
  obtain ⟨w6, v6⟩ := wf_u8 (hz.wf 6 _ rfl)
  obtain ⟨w12, v12⟩ := wf_u32 (hz.wf 12 _ rfl)
  obtain ⟨w13, v13⟩ := wf_u32 (hz.wf 13 _ rfl)
  obtain ⟨w16, v16⟩ := wf_u32 (hz.wf 16 _ rfl)
  obtain ⟨w14, _⟩ := wf_i64 (hz.wf 14 _ rfl)
  obtain ⟨w15, _⟩ := wf_i64 (hz.wf 15 _ rfl)
  have D0 := fun (w' : World) (h : Since (w.alloc (.cells cs 33)) w') => conf_cell hz h.below 0 _ rfl
  have D1 := fun (w' : World) (h : Since (w.alloc (.cells cs 33)) w') => conf_cell hz h.below 1 _ rfl
  have D2 := fun (w' : World) (h : Since (w.alloc (.cells cs 33)) w') => conf_cell hz h.below 2 _ rfl
  have D3 := fun (w' : World) (h : Since (w.alloc (.cells cs 33)) w') => conf_cell hz h.below 3 _ rfl
  have D4 := fun (w' : World) (h : Since (w.alloc (.cells cs 33)) w') => conf_cell hz h.below 4 _ rfl
  have D5 := fun (w' : World) (h : Since (w.alloc (.cells cs 33)) w') => conf_cell hz h.below 5 _ rfl
  have D6 := fun (w' : World) (h : Since (w.alloc (.cells cs 33)) w') => conf_cell hz h.below 6 _ rfl
  have D7 := fun (w' : World) (h : Since (w.alloc (.cells cs 33)) w') => conf_cell hz h.below 7 _ rfl
  have D8 := fun (w' : World) (h : Since (w.alloc (.cells cs 33)) w') => conf_cell hz h.below 8 _ rfl
  have D9 := fun (w' : World) (h : Since (w.alloc (.cells cs 33)) w') => conf_cell hz h.below 9 _ rfl
  have D10 := fun (w' : World) (h : Since (w.alloc (.cells cs 33)) w') => conf_cell hz h.below 10 _ rfl
  have D11 := fun (w' : World) (h : Since (w.alloc (.cells cs 33)) w') => conf_cell hz h.below 11 _ rfl
  have D12 := fun (w' : World) (h : Since (w.alloc (.cells cs 33)) w') => conf_cell hz h.below 12 _ rfl
  have D13 := fun (w' : World) (h : Since (w.alloc (.cells cs 33)) w') => conf_cell hz h.below 13 _ rfl
  have D14 := fun (w' : World) (h : Since (w.alloc (.cells cs 33)) w') => conf_cell hz h.below 14 _ rfl
  have D15 := fun (w' : World) (h : Since (w.alloc (.cells cs 33)) w') => conf_cell hz h.below 15 _ rfl
  have D16 := fun (w' : World) (h : Since (w.alloc (.cells cs 33)) w') => conf_cell hz h.below 16 _ rfl
  have D17 := fun (w' : World) (h : Since (w.alloc (.cells cs 33)) w') => conf_cell hz h.below 17 _ rfl
  have D22 := fun (w' : World) (h : Since (w.alloc (.cells cs 33)) w') => conf_cell hz h.below 22 _ rfl
  have D23 := fun (w' : World) (h : Since (w.alloc (.cells cs 33)) w') => conf_cell hz h.below 23 _ rfl
  have D24 := fun (w' : World) (h : Since (w.alloc (.cells cs 33)) w') => conf_cell hz h.below 24 _ rfl
  have D25 := fun (w' : World) (h : Since (w.alloc (.cells cs 33)) w') => conf_cell hz h.below 25 _ rfl
  have D26 := fun (w' : World) (h : Since (w.alloc (.cells cs 33)) w') => conf_cell hz h.below 26 _ rfl
  have D27 := fun (w' : World) (h : Since (w.alloc (.cells cs 33)) w') => conf_cell hz h.below 27 _ rfl
  have D28 := fun (w' : World) (h : Since (w.alloc (.cells cs 33)) w') => conf_cell hz h.below 28 _ rfl
  have D29 := fun (w' : World) (h : Since (w.alloc (.cells cs 33)) w') => conf_cell hz h.below 29 _ rfl
  have D30 := fun (w' : World) (h : Since (w.alloc (.cells cs 33)) w') => conf_cell hz h.below 30 _ rfl
  have D31 := fun (w' : World) (h : Since (w.alloc (.cells cs 33)) w') => conf_cell hz h.below 31 _ rfl
  have D32 := fun (w' : World) (h : Since (w.alloc (.cells cs 33)) w') => conf_cell hz h.below 32 _ rfl
  have D33 := fun (w' : World) (h : Since (w.alloc (.cells cs 33)) w') => conf_cell hz h.below 33 _ rfl
  have D34 := fun (w' : World) (h : Since (w.alloc (.cells cs 33)) w') => conf_cell hz h.below 34 _ rfl
  have D35 := fun (w' : World) (h : Since (w.alloc (.cells cs 33)) w') => conf_cell hz h.below 35 _ rfl
  have D36 := fun (w' : World) (h : Since (w.alloc (.cells cs 33)) w') => conf_cell hz h.below 36 _ rfl
  have D37 := fun (w' : World) (h : Since (w.alloc (.cells cs 33)) w') => conf_cell hz h.below 37 _ rfl
  have D38 := fun (w' : World) (h : Since (w.alloc (.cells cs 33)) w') => conf_cell hz h.below 38 _ rfl
  have D39 := fun (w' : World) (h : Since (w.alloc (.cells cs 33)) w') => conf_cell hz h.below 39 _ rfl
  have hsa : ∀ (w' : World) (o : Obj), Since (w.alloc (.cells cs 33)) w' → Since (w.alloc (.cells cs 33)) (w'.alloc o) := fun w' o h => h.alloc o
  have hs0 : Since (w.alloc (.cells cs 33)) (w.alloc (.cells cs 33)) := Since.refl _
  clear hz
  go_enter Try.func4, Try.ntmps4
  go_wp2_with (first
    | (go_at_call 16; refine (runi_any _ _ _ _ _ _ _ (by assumption) (by assumption)).mono ?_; rintro e w1 ⟨rfl, hb1⟩; have hs1 : Since (w.alloc (.cells cs 33)) w1 := Since.next (by with_reducible assumption) hb1; have d12 := D12 w1 hs1; have d13 := D13 w1 hs1; have d14 := D14 w1 hs1; have d15 := D15 w1 hs1; have d16 := D16 w1 hs1; have d17 := D17 w1 hs1; have d22 := D22 w1 hs1; have d23 := D23 w1 hs1; have d24 := D24 w1 hs1; have d25 := D25 w1 hs1; have d26 := D26 w1 hs1; have d27 := D27 w1 hs1; have d28 := D28 w1 hs1; have d29 := D29 w1 hs1; have d30 := D30 w1 hs1; have d31 := D31 w1 hs1; have d32 := D32 w1 hs1; have d33 := D33 w1 hs1; have d34 := D34 w1 hs1; have d35 := D35 w1 hs1; have d36 := D36 w1 hs1; have d37 := D37 w1 hs1; have d38 := D38 w1 hs1; have d39 := D39 w1 hs1)
    | (go_at_call 18; refine (rhost_any _ _ _ _ (by assumption) (by assumption) (by assumption) (by assumption) (by assumption)).mono ?_; rintro e w' ⟨rfl, rfl⟩)
    | (go_at_call 19; refine (rin_any _ _ _ _ (by assumption) (by assumption) (by assumption) (by assumption)).mono ?_; rintro e w' ⟨rfl, rfl⟩)
    | (go_at_call 20; refine (rprime_any _ _).mono ?_; rintro e w' ⟨rfl, rfl⟩)
    | (go_at_call 17; with_reducible refine (all_any 8 30 _ _ 2 _ (bitsF z) _ (by omega) (by intro i hi; (have hi' : i = 0 ∨ i = 1 := by omega); rcases hi' with rfl | rfl <;> simp [go_sem, bitsF])).mono ?_; rintro e w' ⟨rfl, hw⟩; have hs' : Since (w.alloc (.cells cs 33)) w' := (by (rw [← hw]); (repeat (first | with_reducible assumption | refine Since.alloc ?_ _))); clear hw; have d12 := D12 w' hs'; have d13 := D13 w' hs'; have d14 := D14 w' hs'; have d15 := D15 w' hs'; have d16 := D16 w' hs'; have d17 := D17 w' hs'; have d22 := D22 w' hs'; have d23 := D23 w' hs'; have d24 := D24 w' hs'; have d25 := D25 w' hs'; have d26 := D26 w' hs'; have d27 := D27 w' hs'; have d28 := D28 w' hs'; have d29 := D29 w' hs'; have d30 := D30 w' hs'; have d31 := D31 w' hs'; have d32 := D32 w' hs'; have d33 := D33 w' hs'; have d34 := D34 w' hs'; have d35 := D35 w' hs'; have d36 := D36 w' hs'; have d37 := D37 w' hs'; have d38 := D38 w' hs'; have d39 := D39 w' hs')
    | (go_at_call 17; with_reducible refine (all_any 1 4095 _ _ 8 _ (ticksF z) _ (by omega) (by intro i hi; (have hi' : i = 0 ∨ i = 1 ∨ i = 2 ∨ i = 3 ∨ i = 4 ∨ i = 5 ∨ i = 6 ∨ i = 7 := by omega); rcases hi' with rfl | rfl | rfl | rfl | rfl | rfl | rfl | rfl <;> simp [go_sem, ticksF])).mono ?_; rintro e w' ⟨rfl, hw⟩; have hs' : Since (w.alloc (.cells cs 33)) w' := (by (rw [← hw]); (repeat (first | with_reducible assumption | refine Since.alloc ?_ _))); clear hw; have d12 := D12 w' hs'; have d13 := D13 w' hs'; have d14 := D14 w' hs'; have d15 := D15 w' hs'; have d16 := D16 w' hs'; have d17 := D17 w' hs'; have d22 := D22 w' hs'; have d23 := D23 w' hs'; have d24 := D24 w' hs'; have d25 := D25 w' hs'; have d26 := D26 w' hs'; have d27 := D27 w' hs'; have d28 := D28 w' hs'; have d29 := D29 w' hs'; have d30 := D30 w' hs'; have d31 := D31 w' hs'; have d32 := D32 w' hs'; have d33 := D33 w' hs'; have d34 := D34 w' hs'; have d35 := D35 w' hs'; have d36 := D36 w' hs'; have d37 := D37 w' hs'; have d38 := D38 w' hs'; have d39 := D39 w' hs')
    | (go_at_call 17; with_reducible refine (all_any 1 100 _ _ 3 _ (timesF z) _ (by omega) (by intro i hi; (have hi' : i = 0 ∨ i = 1 ∨ i = 2 := by omega); rcases hi' with rfl | rfl | rfl <;> simp [go_sem, timesF])).mono ?_; rintro e w' ⟨rfl, hw⟩; have hs' : Since (w.alloc (.cells cs 33)) w' := (by (rw [← hw]); (repeat (first | with_reducible assumption | refine Since.alloc ?_ _))); clear hw; have d12 := D12 w' hs'; have d13 := D13 w' hs'; have d14 := D14 w' hs'; have d15 := D15 w' hs'; have d16 := D16 w' hs'; have d17 := D17 w' hs'; have d22 := D22 w' hs'; have d23 := D23 w' hs'; have d24 := D24 w' hs'; have d25 := D25 w' hs'; have d26 := D26 w' hs'; have d27 := D27 w' hs'; have d28 := D28 w' hs'; have d29 := D29 w' hs'; have d30 := D30 w' hs'; have d31 := D31 w' hs'; have d32 := D32 w' hs'; have d33 := D33 w' hs'; have d34 := D34 w' hs'; have d35 := D35 w' hs'; have d36 := D36 w' hs'; have d37 := D37 w' hs'; have d38 := D38 w' hs'; have d39 := D39 w' hs')
    | (go_at_call 17; with_reducible refine (all_any 576 1500 _ _ 1 _ (fun _ => z 17) _ (by omega) (by intro i hi; (obtain rfl : i = 0 := by omega); simp [go_sem])).mono ?_; rintro e w' ⟨rfl, hw⟩; have hs' : Since (w.alloc (.cells cs 33)) w' := (by (rw [← hw]); (repeat (first | with_reducible assumption | refine Since.alloc ?_ _))); clear hw; have d12 := D12 w' hs'; have d13 := D13 w' hs'; have d14 := D14 w' hs'; have d15 := D15 w' hs'; have d16 := D16 w' hs'; have d17 := D17 w' hs'; have d22 := D22 w' hs'; have d23 := D23 w' hs'; have d24 := D24 w' hs'; have d25 := D25 w' hs'; have d26 := D26 w' hs'; have d27 := D27 w' hs'; have d28 := D28 w' hs'; have d29 := D29 w' hs'; have d30 := D30 w' hs'; have d31 := D31 w' hs'; have d32 := D32 w' hs'; have d33 := D33 w' hs'; have d34 := D34 w' hs'; have d35 := D35 w' hs'; have d36 := D36 w' hs'; have d37 := D37 w' hs'; have d38 := D38 w' hs'; have d39 := D39 w' hs')
    | (go_at_call 17; with_reducible refine (all_any 1 256 _ _ 1 _ (fun _ => z 24) _ (by omega) (by intro i hi; (obtain rfl : i = 0 := by omega); simp [go_sem])).mono ?_; rintro e w' ⟨rfl, hw⟩; have hs' : Since (w.alloc (.cells cs 33)) w' := (by (rw [← hw]); (repeat (first | with_reducible assumption | refine Since.alloc ?_ _))); clear hw; have d12 := D12 w' hs'; have d13 := D13 w' hs'; have d14 := D14 w' hs'; have d15 := D15 w' hs'; have d16 := D16 w' hs'; have d17 := D17 w' hs'; have d22 := D22 w' hs'; have d23 := D23 w' hs'; have d24 := D24 w' hs'; have d25 := D25 w' hs'; have d26 := D26 w' hs'; have d27 := D27 w' hs'; have d28 := D28 w' hs'; have d29 := D29 w' hs'; have d30 := D30 w' hs'; have d31 := D31 w' hs'; have d32 := D32 w' hs'; have d33 := D33 w' hs'; have d34 := D34 w' hs'; have d35 := D35 w' hs'; have d36 := D36 w' hs'; have d37 := D37 w' hs'; have d38 := D38 w' hs'; have d39 := D39 w' hs')
    | (go_at_call 17; with_reducible refine (all_any 1 64 _ _ 1 _ (fun _ => z 25) _ (by omega) (by intro i hi; (obtain rfl : i = 0 := by omega); simp [go_sem])).mono ?_; rintro e w' ⟨rfl, hw⟩; have hs' : Since (w.alloc (.cells cs 33)) w' := (by (rw [← hw]); (repeat (first | with_reducible assumption | refine Since.alloc ?_ _))); clear hw; have d12 := D12 w' hs'; have d13 := D13 w' hs'; have d14 := D14 w' hs'; have d15 := D15 w' hs'; have d16 := D16 w' hs'; have d17 := D17 w' hs'; have d22 := D22 w' hs'; have d23 := D23 w' hs'; have d24 := D24 w' hs'; have d25 := D25 w' hs'; have d26 := D26 w' hs'; have d27 := D27 w' hs'; have d28 := D28 w' hs'; have d29 := D29 w' hs'; have d30 := D30 w' hs'; have d31 := D31 w' hs'; have d32 := D32 w' hs'; have d33 := D33 w' hs'; have d34 := D34 w' hs'; have d35 := D35 w' hs'; have d36 := D36 w' hs'; have d37 := D37 w' hs'; have d38 := D38 w' hs'; have d39 := D39 w' hs')
    | (go_at_call 17; with_reducible refine (all_any 0 256 _ _ 1 _ (fun _ => z 26) _ (by omega) (by intro i hi; (obtain rfl : i = 0 := by omega); simp [go_sem])).mono ?_; rintro e w' ⟨rfl, hw⟩; have hs' : Since (w.alloc (.cells cs 33)) w' := (by (rw [← hw]); (repeat (first | with_reducible assumption | refine Since.alloc ?_ _))); clear hw; have d12 := D12 w' hs'; have d13 := D13 w' hs'; have d14 := D14 w' hs'; have d15 := D15 w' hs'; have d16 := D16 w' hs'; have d17 := D17 w' hs'; have d22 := D22 w' hs'; have d23 := D23 w' hs'; have d24 := D24 w' hs'; have d25 := D25 w' hs'; have d26 := D26 w' hs'; have d27 := D27 w' hs'; have d28 := D28 w' hs'; have d29 := D29 w' hs'; have d30 := D30 w' hs'; have d31 := D31 w' hs'; have d32 := D32 w' hs'; have d33 := D33 w' hs'; have d34 := D34 w' hs'; have d35 := D35 w' hs'; have d36 := D36 w' hs'; have d37 := D37 w' hs'; have d38 := D38 w' hs'; have d39 := D39 w' hs')
    | (go_at_call 17; with_reducible refine (all_any 0 32 _ _ 1 _ (fun _ => z 27) _ (by omega) (by intro i hi; (obtain rfl : i = 0 := by omega); simp [go_sem])).mono ?_; rintro e w' ⟨rfl, hw⟩; have hs' : Since (w.alloc (.cells cs 33)) w' := (by (rw [← hw]); (repeat (first | with_reducible assumption | refine Since.alloc ?_ _))); clear hw; have d12 := D12 w' hs'; have d13 := D13 w' hs'; have d14 := D14 w' hs'; have d15 := D15 w' hs'; have d16 := D16 w' hs'; have d17 := D17 w' hs'; have d22 := D22 w' hs'; have d23 := D23 w' hs'; have d24 := D24 w' hs'; have d25 := D25 w' hs'; have d26 := D26 w' hs'; have d27 := D27 w' hs'; have d28 := D28 w' hs'; have d29 := D29 w' hs'; have d30 := D30 w' hs'; have d31 := D31 w' hs'; have d32 := D32 w' hs'; have d33 := D33 w' hs'; have d34 := D34 w' hs'; have d35 := D35 w' hs'; have d36 := D36 w' hs'; have d37 := D37 w' hs'; have d38 := D38 w' hs'; have d39 := D39 w' hs')
    | (go_at_call 17; with_reducible refine (all_any 0 64 _ _ 1 _ (fun _ => z 28) _ (by omega) (by intro i hi; (obtain rfl : i = 0 := by omega); simp [go_sem])).mono ?_; rintro e w' ⟨rfl, hw⟩; have hs' : Since (w.alloc (.cells cs 33)) w' := (by (rw [← hw]); (repeat (first | with_reducible assumption | refine Since.alloc ?_ _))); clear hw; have d12 := D12 w' hs'; have d13 := D13 w' hs'; have d14 := D14 w' hs'; have d15 := D15 w' hs'; have d16 := D16 w' hs'; have d17 := D17 w' hs'; have d22 := D22 w' hs'; have d23 := D23 w' hs'; have d24 := D24 w' hs'; have d25 := D25 w' hs'; have d26 := D26 w' hs'; have d27 := D27 w' hs'; have d28 := D28 w' hs'; have d29 := D29 w' hs'; have d30 := D30 w' hs'; have d31 := D31 w' hs'; have d32 := D32 w' hs'; have d33 := D33 w' hs'; have d34 := D34 w' hs'; have d35 := D35 w' hs'; have d36 := D36 w' hs'; have d37 := D37 w' hs'; have d38 := D38 w' hs'; have d39 := D39 w' hs'))
  all_goals
    go_ret
    refine ⟨ret_bool ?_, (Since.first w _).trans (by (repeat (first | with_reducible assumption | refine Since.alloc ?_ _)))⟩
    go_light
    clear hsa hs0 D0 D1 D2 D3 D4 D5 D6 D7 D8 D9 D10 D11 D12 D13 D14 D15 D16 D17 D22 D23 D24 D25 D26 D27 D28 D29 D30 D31 D32 D33 D34 D35 D36 D37 D38 D39
    unfold rightR uni0 uni1 macsEq
    simp_all
end Go.Proofs.Ytfepckbhnghpeaa
