/-
  Which configurations may be (layer 25): route.Right. Conditions: the configuration's cells are numbers of their kinds.
-/
import Derived.Test.YtejkambjfcpagaaNear
import Derived.Test.YtejkambjfcpagaaMac
import Derived.Test.YtejkambjfcpagaaPrime
import Derived.Deep.DeepCutAuto
namespace Go.Proofs.Ytejkambjfcpagaa
open Go.RowKit

def ticksF (z : Nat → Int) (i : Nat) : Int := [z 29, z 30, z 32, z 33, z 34, z 35, z 36, z 37].getD i 0
def timesF (z : Nat → Int) (i : Nat) : Int := [z 31, z 38, z 39].getD i 0
def sizesB (z : Nat → Int) : Bool := allIn 1 256 (fun _ => z 24) 1 && allIn 1 64 (fun _ => z 25) 1 && allIn 0 256 (fun _ => z 26) 1 && allIn 0 32 (fun _ => z 27) 1 && allIn 0 64 (fun _ => z 28) 1
def timesB (z : Nat → Int) : Bool := allIn 1 4095 (ticksF z) 8 && allIn 1 100 (timesF z) 3
def uni0 (z : Nat → Int) : Bool := uniB (z 0) (z 1) (z 2) (z 3) (z 4) (z 5)
def uni1 (z : Nat → Int) : Bool := uniB (z 6) (z 7) (z 8) (z 9) (z 10) (z 11)
def macsEq (z : Nat → Int) : Bool := macEq (z 0) (z 1) (z 2) (z 3) (z 4) (z 5) (z 6) (z 7) (z 8) (z 9) (z 10) (z 11)
def netsB (z : Nat → Int) : Bool :=
  uni0 z && allIn 8 30 (fun _ => z 14) 1 && hostB (z 12) (z 12) (z 14) && !inB (z 13) (z 12) (z 14) &&
  uni1 z && allIn 8 30 (fun _ => z 15) 1 && hostB (z 13) (z 13) (z 15) && !inB (z 12) (z 13) (z 15) &&
  !macsEq z && hostB (z 16) (z 12) (z 14) && z 16 != z 12
def rightB (z : Nat → Int) : Bool := netsB z && sizesB z && timesB z && allIn 576 1500 (fun _ => z 17) 1 && z 22 != 0 && primeB (z 23)

attribute [local go_sem ↓] config_veil

/-- A configuration's cells in its box, as long as the box stays. -/
theorem conf_cell {cs : Array Value} {z : Nat → Int} {w w' : World} (hz : IsConf cs z) (hb : Below (w.alloc (.cells cs 33)).heap.size (w.alloc (.cells cs 33)) w') (i : Nat) (k : IntKind) (hk : confKs[i]? = some k) :
    w'.cell? ⟨w.heap.size, i, none⟩ = some (Value.int k (z i)) := by
  rw [hb.cell (by simp), World.cell?_alloc_mark]
  exact hz.cell i k hk

set_option maxRecDepth 100000 in
set_option maxHeartbeats 8000000 in
theorem right_of (cs : Array Value) (z : Nat → Int) (w : World) (hz : IsConf cs z)
    (hnets : ∀ w, Calls Try.prog 13 #[.agg cs] w fun e w' => e = .returned (.bool (netsB z)) ∧ Below w.heap.size w w') :
    Calls Try.prog 5 #[.agg cs] w fun e w' => e = .returned (.bool (rightB z)) ∧ Below w.heap.size w w' := by
  have c24 := hz.cell 24 _ rfl
  have c25 := hz.cell 25 _ rfl
  have c26 := hz.cell 26 _ rfl
  have c27 := hz.cell 27 _ rfl
  have c28 := hz.cell 28 _ rfl
  have Hz := Lib.hid hz
  have Hnets := Lib.hid hnets
  clear hz hnets
  go_enter Try.func5, Try.ntmps5
  go_upto_region 1 with (fail)
  go_cut [3] (fun s wx => s = .bool (sizesB z) ∧ Below (w.alloc (.cells cs 33)).heap.size (w.alloc (.cells cs 33)) wx)
  case first =>
    go_wp2_with (first
      | (go_at_call 12; with_reducible refine (within_any 1 256 _ _ 1 _ (fun _ => z 24) _ (by omega) (by intro i hi; (obtain rfl : i = 0 := by omega); simp [go_sem])).mono ?_; rintro e w' ⟨rfl, rfl⟩)
      | (go_at_call 12; with_reducible refine (within_any 1 64 _ _ 1 _ (fun _ => z 25) _ (by omega) (by intro i hi; (obtain rfl : i = 0 := by omega); simp [go_sem])).mono ?_; rintro e w' ⟨rfl, rfl⟩)
      | (go_at_call 12; with_reducible refine (within_any 0 256 _ _ 1 _ (fun _ => z 26) _ (by omega) (by intro i hi; (obtain rfl : i = 0 := by omega); simp [go_sem])).mono ?_; rintro e w' ⟨rfl, rfl⟩)
      | (go_at_call 12; with_reducible refine (within_any 0 32 _ _ 1 _ (fun _ => z 27) _ (by omega) (by intro i hi; (obtain rfl : i = 0 := by omega); simp [go_sem])).mono ?_; rintro e w' ⟨rfl, rfl⟩)
      | (go_at_call 12; with_reducible refine (within_any 0 64 _ _ 1 _ (fun _ => z 28) _ (by omega) (by intro i hi; (obtain rfl : i = 0 := by omega); simp [go_sem])).mono ?_; rintro e w' ⟨rfl, rfl⟩))
    all_goals
      go_meet
      case rel =>
        refine ⟨congrArg Value.bool ?_, by go_grown⟩
        go_light
        simp_all [sizesB]
  case rest =>
    obtain ⟨rfl, hb⟩ := hcut
    have d29 := conf_cell Hz.out hb 29 _ rfl
    have d30 := conf_cell Hz.out hb 30 _ rfl
    have d31 := conf_cell Hz.out hb 31 _ rfl
    have d32 := conf_cell Hz.out hb 32 _ rfl
    have d33 := conf_cell Hz.out hb 33 _ rfl
    have d34 := conf_cell Hz.out hb 34 _ rfl
    have d35 := conf_cell Hz.out hb 35 _ rfl
    have d36 := conf_cell Hz.out hb 36 _ rfl
    have d37 := conf_cell Hz.out hb 37 _ rfl
    have d38 := conf_cell Hz.out hb 38 _ rfl
    have d39 := conf_cell Hz.out hb 39 _ rfl
    have hlt : w.heap.size < wc.heap.size := by have := hb.size; simp at this; omega
    go_upto_region 2 with (fail)
    go_cut [4] (fun s wx => s = .bool (timesB z) ∧ Below (w.alloc (.cells cs 33)).heap.size (w.alloc (.cells cs 33)) wx)
    case first =>
      go_wp2_with (first
      | (go_at_call 12; with_reducible refine (within_any 1 4095 _ _ 8 _ (ticksF z) _ (by omega) (by intro i hi; (have hi' : i = 0 ∨ i = 1 ∨ i = 2 ∨ i = 3 ∨ i = 4 ∨ i = 5 ∨ i = 6 ∨ i = 7 := by omega); rcases hi' with rfl | rfl | rfl | rfl | rfl | rfl | rfl | rfl <;> simp [go_sem, ticksF])).mono ?_; rintro e w' ⟨rfl, rfl⟩)
      | (go_at_call 12; with_reducible refine (within_any 1 100 _ _ 3 _ (timesF z) _ (by omega) (by intro i hi; (have hi' : i = 0 ∨ i = 1 ∨ i = 2 := by omega); rcases hi' with rfl | rfl | rfl <;> simp [go_sem, timesF])).mono ?_; rintro e w' ⟨rfl, rfl⟩))
      all_goals
        go_meet
        case rel =>
          refine ⟨congrArg Value.bool ?_, by go_grown⟩
          go_light
          simp_all [timesB]
    case rest =>
      obtain ⟨rfl, hb⟩ := hcut
      have hl := conf_load cs w wc Hz.out.size hb
      go_wp2_with (first
        | (go_at_call 13; refine (Hnets.out _).mono ?_; rintro e w1 ⟨rfl, hb1⟩; have hb2 := below_next hb (Nat.le_refl _) hb1; have hb3 : Below w.heap.size w w1 := (below_alloc_first w _).trans (hb2.mono (by simp)); have d17 := conf_cell Hz.out hb2 17 _ rfl; have d22 := conf_cell Hz.out hb2 22 _ rfl; have d23 := conf_cell Hz.out hb2 23 _ rfl; have hlt1 : w.heap.size < w1.heap.size := by (have := hb2.size; simp at this; omega))
        | (go_at_call 12; with_reducible refine (within_any 576 1500 _ _ 1 _ (fun _ => z 17) _ (by omega) (by intro i hi; (obtain rfl : i = 0 := by omega); simp [go_sem])).mono ?_; rintro e w' ⟨rfl, rfl⟩)
        | (go_at_call 14; refine (prime_any _ _).mono ?_; rintro e w' ⟨rfl, rfl⟩))
      all_goals
        go_ret
        refine ⟨ret_bool ?_, by go_grown⟩
        go_light
        grind [rightB]
end Go.Proofs.Ytejkambjfcpagaa
