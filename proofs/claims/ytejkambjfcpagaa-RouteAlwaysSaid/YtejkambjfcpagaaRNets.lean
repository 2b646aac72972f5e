/-
  The walk of route.nets (layer 25), case by case. Written by program (gen_rnets.py). Conditions: the configuration's cells are numbers of their kinds.
-/
import Derived.Test.YtejkambjfcpagaaRight
import Derived.Test.YtejkambjfcpagaaPlan
namespace Go.Proofs.Ytejkambjfcpagaa
open Go.RowKit

def passB (z : Nat → Int) (k : Nat) : Bool :=
  if k = 0 then uni0 z && allIn 8 30 (fun _ => z 14) 1 && hostB (z 12) (z 12) (z 14) && !inB (z 13) (z 12) (z 14)
  else uni1 z && allIn 8 30 (fun _ => z 15) 1 && hostB (z 13) (z 13) (z 15) && !inB (z 12) (z 13) (z 15)

attribute [local go_sem] eqin_mac guard_mac
theorem nets4_ok : lexOk ((regionOf 4 (Try.f13.body.getD .skip)).getD #[]) [false, false, false, false, true, false, false, false, false, false, false, true, true, false, false, false, false, false, false, false, false, false, false, false, false, false, false, false, true, false, false, false, false, false, false, false, false, false, false, false, false, false, false, false, false, true, false] = true := by kernel_rfl

set_option maxRecDepth 100000 in
set_option maxHeartbeats 16000000 in
theorem nets_any (cs : Array Value) (z : Nat → Int) (w : World) (hz : IsConf cs z) :
    Calls Try.prog 13 #[.agg cs] w fun e w' => e = .returned (.bool (netsB z)) ∧ Below w.heap.size w w' := by
  obtain ⟨w0, v0⟩ := wf_u8 (hz.wf 0 _ rfl)
  obtain ⟨w6, v6⟩ := wf_u8 (hz.wf 6 _ rfl)
  obtain ⟨w12, v12⟩ := wf_u32 (hz.wf 12 _ rfl)
  obtain ⟨w13, v13⟩ := wf_u32 (hz.wf 13 _ rfl)
  obtain ⟨w16, v16⟩ := wf_u32 (hz.wf 16 _ rfl)
  have D0 := fun (w' : World) (h : Since (w.alloc (.cells cs 33)) w') => conf_cell hz h.below 0 _ rfl
  have D1 := fun (w' : World) (h : Since (w.alloc (.cells cs 33)) w') => conf_cell hz h.below 1 _ rfl
  have D2 := fun (w' : World) (h : Since (w.alloc (.cells cs 33)) w') => conf_cell hz h.below 2 _ rfl
  have D3 := fun (w' : World) (h : Since (w.alloc (.cells cs 33)) w') => conf_cell hz h.below 3 _ rfl
  have D4 := fun (w' : World) (h : Since (w.alloc (.cells cs 33)) w') => conf_cell hz h.below 4 _ rfl
  have D5 := fun (w' : World) (h : Since (w.alloc (.cells cs 33)) w') => conf_cell hz h.below 5 _ rfl
  have D6 := fun (w' : World) (h : Since (w.alloc (.cells cs 33)) w') => conf_cell hz h.below 6 _ rfl
  have D7 := fun (w' : World) (h : Since (w.alloc (.cells cs 33)) w') => conf_cell hz h.below 7 _ rfl
  have D8 := fun (w' : World) (h : Since (w.alloc (.cells cs 33)) w') => conf_cell hz h.below 8 _ rfl
  have D9 := fun (w' : World) (h : Since (w.alloc (.cells cs 33)) w') => conf_cell hz h.below 9 _ rfl
  have D10 := fun (w' : World) (h : Since (w.alloc (.cells cs 33)) w') => conf_cell hz h.below 10 _ rfl
  have D11 := fun (w' : World) (h : Since (w.alloc (.cells cs 33)) w') => conf_cell hz h.below 11 _ rfl
  have D12 := fun (w' : World) (h : Since (w.alloc (.cells cs 33)) w') => conf_cell hz h.below 12 _ rfl
  have D13 := fun (w' : World) (h : Since (w.alloc (.cells cs 33)) w') => conf_cell hz h.below 13 _ rfl
  have D14 := fun (w' : World) (h : Since (w.alloc (.cells cs 33)) w') => conf_cell hz h.below 14 _ rfl
  have D15 := fun (w' : World) (h : Since (w.alloc (.cells cs 33)) w') => conf_cell hz h.below 15 _ rfl
  have D16 := fun (w' : World) (h : Since (w.alloc (.cells cs 33)) w') => conf_cell hz h.below 16 _ rfl
  have e1 : IntKind.i64.wrap 1 = 1 := by decide
  have e0 : IntKind.i64.wrap 0 = 0 := by decide
  have Hz := Lib.hid hz
  clear hz
  go_enter Try.func13, Try.ntmps13
  go_wp2_with fail
  go_loopw [4] (fun i wr => ∃ k : Nat, k ≤ 2 ∧ i = .int .i64 k ∧ Since (w.alloc (.cells cs 33)) wr ∧ Hid (0 < k → passB z 0 = true) ∧ Hid (1 < k → passB z 1 = true)) (fun i _ => 2 - (intOf i).toNat)
  case atStart => exact ⟨0, by omega, rfl, Since.refl _, fun h => by omega, fun h => by omega⟩
  case round =>
    obtain ⟨k, hk, rfl, hb, H0, H1⟩ := hrel
    have hk' : k = 0 ∨ k = 1 ∨ k = 2 := by omega
    rcases hk' with rfl | rfl | rfl
    · -- card 0
      go_wp2_with fail
      refine wp_region_lexp (Since (w.alloc (.cells cs 33))) [false, false, false, false, true, false, false, false, false, false, false, true, true, false, false, false, false, false, false, false, false, false, false, false, false, false, false, false, true, false, false, false, false, false, false, false, false, false, false, false, false, false, false, false, false, true, false] (by kernel_rfl) nets4_ok (by intro c a d v w h; cases d <;> exact h) hb.drew ?_
      refine wpLexP_pure ?_ ?_ ?_ ?_
      focus exact wanted_none rfl
      rotate_left
      focus (intro wq hq; go_simp; first | done | with_reducible rfl)
      (simp only [Act.put, List.setIfInBounds_toArray]); (try simp only [List.set_cons_succ]); (try simp only [List.set_cons_zero])
      refine wpLexP_pure ?_ ?_ ?_ ?_
      focus exact wanted_none rfl
      rotate_left
      focus (intro wq hq; go_simp; first | done | with_reducible rfl)
      (simp only [Act.put, List.setIfInBounds_toArray]); (try simp only [List.set_cons_succ]); (try simp only [List.set_cons_zero])
      refine wpLexP_pure ?_ ?_ ?_ ?_
      focus exact wanted_none rfl
      rotate_left
      focus (intro wq hq; go_simp; first | done | with_reducible rfl)
      (simp only [Act.put, List.setIfInBounds_toArray]); (try simp only [List.set_cons_succ]); (try simp only [List.set_cons_zero])
      refine wpLexP_pure ?_ ?_ ?_ ?_
      focus exact wanted_none rfl
      rotate_left
      focus (intro wq hq; go_simp; first | done | with_reducible rfl)
      (simp only [Act.put, List.setIfInBounds_toArray]); (try simp only [List.set_cons_succ]); (try simp only [List.set_cons_zero])
      refine wpLexP_solo ?_ (fun K hK => ?_)
      focus exact wanted_none rfl
      go_simp
      go_at_call 22
      refine (uni_any _ _ _ _ _ _ _ (by assumption) (by assumption)).mono ?_
      rintro e w1 ⟨rfl, hb1⟩
      refine hK.out _ _ ?_ ?_
      focus (repeat (first | with_reducible assumption | refine Since.alloc ?_ _ | refine Since.drew ?_ | refine Since.next ?_ (by with_reducible assumption)))
      clear hK K
      try (simp only [Act.put, List.setIfInBounds_toArray]); (try simp only [List.set_cons_succ]); (try simp only [List.set_cons_zero])
      cases q0 : uniB (z 0) (z 1) (z 2) (z 3) (z 4) (z 5)
      case false =>
        try simp only [q0]
        refine wpLexP_pure ?_ ?_ ?_ ?_
        focus exact wanted_none rfl
        rotate_left
        focus (intro wq hq; go_simp; first | done | with_reducible rfl)
        (simp only [Act.put, List.setIfInBounds_toArray]); (try simp only [List.set_cons_succ]); (try simp only [List.set_cons_zero])
        refine wpLexP_pure ?_ ?_ ?_ ?_
        focus exact wanted_none rfl
        rotate_left
        focus (intro wq hq; go_simp; first | done | with_reducible rfl)
        (simp only [Act.put, List.setIfInBounds_toArray]); (try simp only [List.set_cons_succ]); (try simp only [List.set_cons_zero])
        refine wpLexP_skip ?_ ?_
        focus exact unwanted rfl rfl rfl
        (simp only [Act.put, List.setIfInBounds_toArray]); (try simp only [List.set_cons_succ]); (try simp only [List.set_cons_zero])
        refine wpLexP_skip ?_ ?_
        focus exact unwanted rfl rfl rfl
        (simp only [Act.put, List.setIfInBounds_toArray]); (try simp only [List.set_cons_succ]); (try simp only [List.set_cons_zero])
        refine wpLexP_skip ?_ ?_
        focus exact unwanted rfl rfl rfl
        (simp only [Act.put, List.setIfInBounds_toArray]); (try simp only [List.set_cons_succ]); (try simp only [List.set_cons_zero])
        refine wpLexP_skip ?_ ?_
        focus exact unwanted rfl rfl rfl
        (simp only [Act.put, List.setIfInBounds_toArray]); (try simp only [List.set_cons_succ]); (try simp only [List.set_cons_zero])
        refine wpLexP_skip ?_ ?_
        focus exact unwanted rfl rfl rfl
        (simp only [Act.put, List.setIfInBounds_toArray]); (try simp only [List.set_cons_succ]); (try simp only [List.set_cons_zero])
        refine wpLexP_skip ?_ ?_
        focus exact unwanted rfl rfl rfl
        (simp only [Act.put, List.setIfInBounds_toArray]); (try simp only [List.set_cons_succ]); (try simp only [List.set_cons_zero])
        refine wpLexP_skip ?_ ?_
        focus exact unwanted rfl rfl rfl
        (simp only [Act.put, List.setIfInBounds_toArray]); (try simp only [List.set_cons_succ]); (try simp only [List.set_cons_zero])
        refine wpLexP_pure ?_ ?_ ?_ ?_
        focus exact wanted_none rfl
        rotate_left
        focus (intro wq hq; go_simp; first | done | with_reducible rfl)
        (simp only [Act.put, List.setIfInBounds_toArray]); (try simp only [List.set_cons_succ]); (try simp only [List.set_cons_zero])
        refine wpLexP_pure ?_ ?_ ?_ ?_
        focus exact wanted_none rfl
        rotate_left
        focus (intro wq hq; go_simp; first | done | with_reducible rfl)
        (simp only [Act.put, List.setIfInBounds_toArray]); (try simp only [List.set_cons_succ]); (try simp only [List.set_cons_zero])
        refine wpLexP_skip ?_ ?_
        focus exact unwanted rfl rfl rfl
        (simp only [Act.put, List.setIfInBounds_toArray]); (try simp only [List.set_cons_succ]); (try simp only [List.set_cons_zero])
        refine wpLexP_skip ?_ ?_
        focus exact unwanted rfl rfl rfl
        (simp only [Act.put, List.setIfInBounds_toArray]); (try simp only [List.set_cons_succ]); (try simp only [List.set_cons_zero])
        refine wpLexP_skip ?_ ?_
        focus exact unwanted rfl rfl rfl
        (simp only [Act.put, List.setIfInBounds_toArray]); (try simp only [List.set_cons_succ]); (try simp only [List.set_cons_zero])
        refine wpLexP_skip ?_ ?_
        focus exact unwanted rfl rfl rfl
        (simp only [Act.put, List.setIfInBounds_toArray]); (try simp only [List.set_cons_succ]); (try simp only [List.set_cons_zero])
        refine wpLexP_skip ?_ ?_
        focus exact unwanted rfl rfl rfl
        (simp only [Act.put, List.setIfInBounds_toArray]); (try simp only [List.set_cons_succ]); (try simp only [List.set_cons_zero])
        refine wpLexP_skip ?_ ?_
        focus exact unwanted rfl rfl rfl
        (simp only [Act.put, List.setIfInBounds_toArray]); (try simp only [List.set_cons_succ]); (try simp only [List.set_cons_zero])
        refine wpLexP_skip ?_ ?_
        focus exact unwanted rfl rfl rfl
        (simp only [Act.put, List.setIfInBounds_toArray]); (try simp only [List.set_cons_succ]); (try simp only [List.set_cons_zero])
        refine wpLexP_skip ?_ ?_
        focus exact unwanted rfl rfl rfl
        (simp only [Act.put, List.setIfInBounds_toArray]); (try simp only [List.set_cons_succ]); (try simp only [List.set_cons_zero])
        refine wpLexP_skip ?_ ?_
        focus exact unwanted rfl rfl rfl
        (simp only [Act.put, List.setIfInBounds_toArray]); (try simp only [List.set_cons_succ]); (try simp only [List.set_cons_zero])
        refine wpLexP_skip ?_ ?_
        focus exact unwanted rfl rfl rfl
        (simp only [Act.put, List.setIfInBounds_toArray]); (try simp only [List.set_cons_succ]); (try simp only [List.set_cons_zero])
        refine wpLexP_skip ?_ ?_
        focus exact unwanted rfl rfl rfl
        (simp only [Act.put, List.setIfInBounds_toArray]); (try simp only [List.set_cons_succ]); (try simp only [List.set_cons_zero])
        refine wpLexP_skip ?_ ?_
        focus exact unwanted rfl rfl rfl
        (simp only [Act.put, List.setIfInBounds_toArray]); (try simp only [List.set_cons_succ]); (try simp only [List.set_cons_zero])
        refine wpLexP_skip ?_ ?_
        focus exact unwanted rfl rfl rfl
        (simp only [Act.put, List.setIfInBounds_toArray]); (try simp only [List.set_cons_succ]); (try simp only [List.set_cons_zero])
        refine wpLexP_skip ?_ ?_
        focus exact unwanted rfl rfl rfl
        (simp only [Act.put, List.setIfInBounds_toArray]); (try simp only [List.set_cons_succ]); (try simp only [List.set_cons_zero])
        refine wpLexP_pure ?_ ?_ ?_ ?_
        focus exact wanted_none rfl
        rotate_left
        focus (intro wq hq; go_simp; first | done | with_reducible rfl)
        (simp only [Act.put, List.setIfInBounds_toArray]); (try simp only [List.set_cons_succ]); (try simp only [List.set_cons_zero])
        refine wpLexP_pure ?_ ?_ ?_ ?_
        focus exact wanted_none rfl
        rotate_left
        focus (intro wq hq; go_simp; first | done | with_reducible rfl)
        (simp only [Act.put, List.setIfInBounds_toArray]); (try simp only [List.set_cons_succ]); (try simp only [List.set_cons_zero])
        refine wpLexP_skip ?_ ?_
        focus exact unwanted rfl rfl rfl
        (simp only [Act.put, List.setIfInBounds_toArray]); (try simp only [List.set_cons_succ]); (try simp only [List.set_cons_zero])
        refine wpLexP_skip ?_ ?_
        focus exact unwanted rfl rfl rfl
        (simp only [Act.put, List.setIfInBounds_toArray]); (try simp only [List.set_cons_succ]); (try simp only [List.set_cons_zero])
        refine wpLexP_skip ?_ ?_
        focus exact unwanted rfl rfl rfl
        (simp only [Act.put, List.setIfInBounds_toArray]); (try simp only [List.set_cons_succ]); (try simp only [List.set_cons_zero])
        refine wpLexP_skip ?_ ?_
        focus exact unwanted rfl rfl rfl
        (simp only [Act.put, List.setIfInBounds_toArray]); (try simp only [List.set_cons_succ]); (try simp only [List.set_cons_zero])
        refine wpLexP_skip ?_ ?_
        focus exact unwanted rfl rfl rfl
        (simp only [Act.put, List.setIfInBounds_toArray]); (try simp only [List.set_cons_succ]); (try simp only [List.set_cons_zero])
        refine wpLexP_skip ?_ ?_
        focus exact unwanted rfl rfl rfl
        (simp only [Act.put, List.setIfInBounds_toArray]); (try simp only [List.set_cons_succ]); (try simp only [List.set_cons_zero])
        refine wpLexP_skip ?_ ?_
        focus exact unwanted rfl rfl rfl
        (simp only [Act.put, List.setIfInBounds_toArray]); (try simp only [List.set_cons_succ]); (try simp only [List.set_cons_zero])
        refine wpLexP_skip ?_ ?_
        focus exact unwanted rfl rfl rfl
        (simp only [Act.put, List.setIfInBounds_toArray]); (try simp only [List.set_cons_succ]); (try simp only [List.set_cons_zero])
        refine wpLexP_skip ?_ ?_
        focus exact unwanted rfl rfl rfl
        (simp only [Act.put, List.setIfInBounds_toArray]); (try simp only [List.set_cons_succ]); (try simp only [List.set_cons_zero])
        refine wpLexP_skip ?_ ?_
        focus exact unwanted rfl rfl rfl
        (simp only [Act.put, List.setIfInBounds_toArray]); (try simp only [List.set_cons_succ]); (try simp only [List.set_cons_zero])
        refine wpLexP_skip ?_ ?_
        focus exact unwanted rfl rfl rfl
        (simp only [Act.put, List.setIfInBounds_toArray]); (try simp only [List.set_cons_succ]); (try simp only [List.set_cons_zero])
        refine wpLexP_skip ?_ ?_
        focus exact unwanted rfl rfl rfl
        (simp only [Act.put, List.setIfInBounds_toArray]); (try simp only [List.set_cons_succ]); (try simp only [List.set_cons_zero])
        refine wpLexP_skip ?_ ?_
        focus exact unwanted rfl rfl rfl
        (simp only [Act.put, List.setIfInBounds_toArray]); (try simp only [List.set_cons_succ]); (try simp only [List.set_cons_zero])
        refine wpLexP_skip ?_ ?_
        focus exact unwanted rfl rfl rfl
        (simp only [Act.put, List.setIfInBounds_toArray]); (try simp only [List.set_cons_succ]); (try simp only [List.set_cons_zero])
        refine wpLexP_pure ?_ ?_ ?_ ?_
        focus exact wanted_none rfl
        rotate_left
        focus (intro wq hq; go_simp; first | done | with_reducible rfl)
        (simp only [Act.put, List.setIfInBounds_toArray]); (try simp only [List.set_cons_succ]); (try simp only [List.set_cons_zero])
        refine wpLexP_nil ?_
        go_wp2_with fail
        go_ret
        refine ⟨ret_bool ?_, (Since.first w _).trans (by repeat (first | with_reducible assumption | refine Since.alloc ?_ _ | refine Since.drew ?_ | refine Since.next ?_ (by with_reducible assumption)))⟩
        go_light
        simp [netsB, uni0, uni1, q0]
      case true =>
        try simp only [q0]
        refine wpLexP_pure ?_ ?_ ?_ ?_
        focus exact wanted_none rfl
        rotate_left
        focus (intro wq hq; go_simp; first | done | with_reducible rfl)
        (simp only [Act.put, List.setIfInBounds_toArray]); (try simp only [List.set_cons_succ]); (try simp only [List.set_cons_zero])
        refine wpLexP_pure ?_ ?_ ?_ ?_
        focus exact wanted_none rfl
        rotate_left
        focus (intro wq hq; go_simp; first | done | with_reducible rfl)
        (simp only [Act.put, List.setIfInBounds_toArray]); (try simp only [List.set_cons_succ]); (try simp only [List.set_cons_zero])
        refine wpLexP_pure ?_ ?_ ?_ ?_
        focus exact wanted_yes rfl rfl
        rotate_left
        focus (intro wq hq; go_simp; first | done | with_reducible rfl)
        (simp only [Act.put, List.setIfInBounds_toArray]); (try simp only [List.set_cons_succ]); (try simp only [List.set_cons_zero])
        refine wpLexP_pure ?_ ?_ ?_ ?_
        focus exact wanted_yes rfl rfl
        rotate_left
        focus (intro wq hq; go_simp; first | done | with_reducible rfl)
        (simp only [Act.put, List.setIfInBounds_toArray]); (try simp only [List.set_cons_succ]); (try simp only [List.set_cons_zero])
        refine wpLexP_pure ?_ ?_ ?_ ?_
        focus exact wanted_yes rfl rfl
        rotate_left
        focus (intro wq hq; go_simp; first | done | with_reducible rfl)
        (simp only [Act.put, List.setIfInBounds_toArray]); (try simp only [List.set_cons_succ]); (try simp only [List.set_cons_zero])
        refine wpLexP_pure ?_ ?_ ?_ ?_
        focus exact wanted_yes rfl rfl
        rotate_left
        focus (intro wq hq; go_simp; first | done | with_reducible rfl)
        (simp only [Act.put, List.setIfInBounds_toArray]); (try simp only [List.set_cons_succ]); (try simp only [List.set_cons_zero])
        refine wpLexP_solo ?_ (fun K hK => ?_)
        focus exact wanted_yes rfl rfl
        go_simp
        refine hK.out _ _ ?_ ?_
        focus (repeat (first | with_reducible assumption | refine Since.alloc ?_ _ | refine Since.drew ?_ | refine Since.next ?_ (by with_reducible assumption)))
        clear hK K
        try (simp only [Act.put, List.setIfInBounds_toArray]); (try simp only [List.set_cons_succ]); (try simp only [List.set_cons_zero])
        refine wpLexP_solo ?_ (fun K hK => ?_)
        focus exact wanted_yes rfl rfl
        go_simp
        go_at_call 12
        refine (within_any 8 30 _ _ 1 _ (fun _ => z 14) _ (by omega) (by intro i hi; (obtain rfl : i = 0 := by omega); simp [go_sem])).mono ?_
        rintro e w' ⟨rfl, rfl⟩
        refine hK.out _ _ ?_ ?_
        focus (repeat (first | with_reducible assumption | refine Since.alloc ?_ _ | refine Since.drew ?_ | refine Since.next ?_ (by with_reducible assumption)))
        clear hK K
        try (simp only [Act.put, List.setIfInBounds_toArray]); (try simp only [List.set_cons_succ]); (try simp only [List.set_cons_zero])
        cases q1 : allIn 8 30 (fun _ => z 14) 1
        case false =>
          try simp only [q1]
          refine wpLexP_pure ?_ ?_ ?_ ?_
          focus exact wanted_yes rfl rfl
          rotate_left
          focus (intro wq hq; go_simp; first | done | with_reducible rfl)
          (simp only [Act.put, List.setIfInBounds_toArray]); (try simp only [List.set_cons_succ]); (try simp only [List.set_cons_zero])
          refine wpLexP_pure ?_ ?_ ?_ ?_
          focus exact wanted_none rfl
          rotate_left
          focus (intro wq hq; go_simp; first | done | with_reducible rfl)
          (simp only [Act.put, List.setIfInBounds_toArray]); (try simp only [List.set_cons_succ]); (try simp only [List.set_cons_zero])
          refine wpLexP_pure ?_ ?_ ?_ ?_
          focus exact wanted_none rfl
          rotate_left
          focus (intro wq hq; go_simp; first | done | with_reducible rfl)
          (simp only [Act.put, List.setIfInBounds_toArray]); (try simp only [List.set_cons_succ]); (try simp only [List.set_cons_zero])
          refine wpLexP_skip ?_ ?_
          focus exact unwanted rfl rfl rfl
          (simp only [Act.put, List.setIfInBounds_toArray]); (try simp only [List.set_cons_succ]); (try simp only [List.set_cons_zero])
          refine wpLexP_skip ?_ ?_
          focus exact unwanted rfl rfl rfl
          (simp only [Act.put, List.setIfInBounds_toArray]); (try simp only [List.set_cons_succ]); (try simp only [List.set_cons_zero])
          refine wpLexP_skip ?_ ?_
          focus exact unwanted rfl rfl rfl
          (simp only [Act.put, List.setIfInBounds_toArray]); (try simp only [List.set_cons_succ]); (try simp only [List.set_cons_zero])
          refine wpLexP_skip ?_ ?_
          focus exact unwanted rfl rfl rfl
          (simp only [Act.put, List.setIfInBounds_toArray]); (try simp only [List.set_cons_succ]); (try simp only [List.set_cons_zero])
          refine wpLexP_skip ?_ ?_
          focus exact unwanted rfl rfl rfl
          (simp only [Act.put, List.setIfInBounds_toArray]); (try simp only [List.set_cons_succ]); (try simp only [List.set_cons_zero])
          refine wpLexP_skip ?_ ?_
          focus exact unwanted rfl rfl rfl
          (simp only [Act.put, List.setIfInBounds_toArray]); (try simp only [List.set_cons_succ]); (try simp only [List.set_cons_zero])
          refine wpLexP_skip ?_ ?_
          focus exact unwanted rfl rfl rfl
          (simp only [Act.put, List.setIfInBounds_toArray]); (try simp only [List.set_cons_succ]); (try simp only [List.set_cons_zero])
          refine wpLexP_skip ?_ ?_
          focus exact unwanted rfl rfl rfl
          (simp only [Act.put, List.setIfInBounds_toArray]); (try simp only [List.set_cons_succ]); (try simp only [List.set_cons_zero])
          refine wpLexP_skip ?_ ?_
          focus exact unwanted rfl rfl rfl
          (simp only [Act.put, List.setIfInBounds_toArray]); (try simp only [List.set_cons_succ]); (try simp only [List.set_cons_zero])
          refine wpLexP_skip ?_ ?_
          focus exact unwanted rfl rfl rfl
          (simp only [Act.put, List.setIfInBounds_toArray]); (try simp only [List.set_cons_succ]); (try simp only [List.set_cons_zero])
          refine wpLexP_skip ?_ ?_
          focus exact unwanted rfl rfl rfl
          (simp only [Act.put, List.setIfInBounds_toArray]); (try simp only [List.set_cons_succ]); (try simp only [List.set_cons_zero])
          refine wpLexP_skip ?_ ?_
          focus exact unwanted rfl rfl rfl
          (simp only [Act.put, List.setIfInBounds_toArray]); (try simp only [List.set_cons_succ]); (try simp only [List.set_cons_zero])
          refine wpLexP_skip ?_ ?_
          focus exact unwanted rfl rfl rfl
          (simp only [Act.put, List.setIfInBounds_toArray]); (try simp only [List.set_cons_succ]); (try simp only [List.set_cons_zero])
          refine wpLexP_skip ?_ ?_
          focus exact unwanted rfl rfl rfl
          (simp only [Act.put, List.setIfInBounds_toArray]); (try simp only [List.set_cons_succ]); (try simp only [List.set_cons_zero])
          refine wpLexP_pure ?_ ?_ ?_ ?_
          focus exact wanted_none rfl
          rotate_left
          focus (intro wq hq; go_simp; first | done | with_reducible rfl)
          (simp only [Act.put, List.setIfInBounds_toArray]); (try simp only [List.set_cons_succ]); (try simp only [List.set_cons_zero])
          refine wpLexP_pure ?_ ?_ ?_ ?_
          focus exact wanted_none rfl
          rotate_left
          focus (intro wq hq; go_simp; first | done | with_reducible rfl)
          (simp only [Act.put, List.setIfInBounds_toArray]); (try simp only [List.set_cons_succ]); (try simp only [List.set_cons_zero])
          refine wpLexP_skip ?_ ?_
          focus exact unwanted rfl rfl rfl
          (simp only [Act.put, List.setIfInBounds_toArray]); (try simp only [List.set_cons_succ]); (try simp only [List.set_cons_zero])
          refine wpLexP_skip ?_ ?_
          focus exact unwanted rfl rfl rfl
          (simp only [Act.put, List.setIfInBounds_toArray]); (try simp only [List.set_cons_succ]); (try simp only [List.set_cons_zero])
          refine wpLexP_skip ?_ ?_
          focus exact unwanted rfl rfl rfl
          (simp only [Act.put, List.setIfInBounds_toArray]); (try simp only [List.set_cons_succ]); (try simp only [List.set_cons_zero])
          refine wpLexP_skip ?_ ?_
          focus exact unwanted rfl rfl rfl
          (simp only [Act.put, List.setIfInBounds_toArray]); (try simp only [List.set_cons_succ]); (try simp only [List.set_cons_zero])
          refine wpLexP_skip ?_ ?_
          focus exact unwanted rfl rfl rfl
          (simp only [Act.put, List.setIfInBounds_toArray]); (try simp only [List.set_cons_succ]); (try simp only [List.set_cons_zero])
          refine wpLexP_skip ?_ ?_
          focus exact unwanted rfl rfl rfl
          (simp only [Act.put, List.setIfInBounds_toArray]); (try simp only [List.set_cons_succ]); (try simp only [List.set_cons_zero])
          refine wpLexP_skip ?_ ?_
          focus exact unwanted rfl rfl rfl
          (simp only [Act.put, List.setIfInBounds_toArray]); (try simp only [List.set_cons_succ]); (try simp only [List.set_cons_zero])
          refine wpLexP_skip ?_ ?_
          focus exact unwanted rfl rfl rfl
          (simp only [Act.put, List.setIfInBounds_toArray]); (try simp only [List.set_cons_succ]); (try simp only [List.set_cons_zero])
          refine wpLexP_skip ?_ ?_
          focus exact unwanted rfl rfl rfl
          (simp only [Act.put, List.setIfInBounds_toArray]); (try simp only [List.set_cons_succ]); (try simp only [List.set_cons_zero])
          refine wpLexP_skip ?_ ?_
          focus exact unwanted rfl rfl rfl
          (simp only [Act.put, List.setIfInBounds_toArray]); (try simp only [List.set_cons_succ]); (try simp only [List.set_cons_zero])
          refine wpLexP_skip ?_ ?_
          focus exact unwanted rfl rfl rfl
          (simp only [Act.put, List.setIfInBounds_toArray]); (try simp only [List.set_cons_succ]); (try simp only [List.set_cons_zero])
          refine wpLexP_skip ?_ ?_
          focus exact unwanted rfl rfl rfl
          (simp only [Act.put, List.setIfInBounds_toArray]); (try simp only [List.set_cons_succ]); (try simp only [List.set_cons_zero])
          refine wpLexP_skip ?_ ?_
          focus exact unwanted rfl rfl rfl
          (simp only [Act.put, List.setIfInBounds_toArray]); (try simp only [List.set_cons_succ]); (try simp only [List.set_cons_zero])
          refine wpLexP_skip ?_ ?_
          focus exact unwanted rfl rfl rfl
          (simp only [Act.put, List.setIfInBounds_toArray]); (try simp only [List.set_cons_succ]); (try simp only [List.set_cons_zero])
          refine wpLexP_pure ?_ ?_ ?_ ?_
          focus exact wanted_none rfl
          rotate_left
          focus (intro wq hq; go_simp; first | done | with_reducible rfl)
          (simp only [Act.put, List.setIfInBounds_toArray]); (try simp only [List.set_cons_succ]); (try simp only [List.set_cons_zero])
          refine wpLexP_nil ?_
          go_wp2_with fail
          go_ret
          refine ⟨ret_bool ?_, (Since.first w _).trans (by repeat (first | with_reducible assumption | refine Since.alloc ?_ _ | refine Since.drew ?_ | refine Since.next ?_ (by with_reducible assumption)))⟩
          go_light
          simp [netsB, uni0, uni1, q0, q1]
        case true =>
          try simp only [q1]
          refine wpLexP_pure ?_ ?_ ?_ ?_
          focus exact wanted_yes rfl rfl
          rotate_left
          focus (intro wq hq; go_simp; first | done | with_reducible rfl)
          (simp only [Act.put, List.setIfInBounds_toArray]); (try simp only [List.set_cons_succ]); (try simp only [List.set_cons_zero])
          refine wpLexP_pure ?_ ?_ ?_ ?_
          focus exact wanted_none rfl
          rotate_left
          focus (intro wq hq; go_simp; first | done | with_reducible rfl)
          (simp only [Act.put, List.setIfInBounds_toArray]); (try simp only [List.set_cons_succ]); (try simp only [List.set_cons_zero])
          refine wpLexP_pure ?_ ?_ ?_ ?_
          focus exact wanted_none rfl
          rotate_left
          focus (intro wq hq; go_simp; first | done | with_reducible rfl)
          (simp only [Act.put, List.setIfInBounds_toArray]); (try simp only [List.set_cons_succ]); (try simp only [List.set_cons_zero])
          refine wpLexP_pure ?_ ?_ ?_ ?_
          focus exact wanted_yes rfl rfl
          rotate_left
          focus (intro wq hq; go_simp; first | done | with_reducible rfl)
          (simp only [Act.put, List.setIfInBounds_toArray]); (try simp only [List.set_cons_succ]); (try simp only [List.set_cons_zero])
          refine wpLexP_pure ?_ ?_ ?_ ?_
          focus exact wanted_yes rfl rfl
          rotate_left
          focus (intro wq hq; go_simp; first | done | with_reducible rfl)
          (simp only [Act.put, List.setIfInBounds_toArray]); (try simp only [List.set_cons_succ]); (try simp only [List.set_cons_zero])
          refine wpLexP_pure ?_ ?_ ?_ ?_
          focus exact wanted_yes rfl rfl
          rotate_left
          focus (intro wq hq; go_simp; first | done | with_reducible rfl)
          (simp only [Act.put, List.setIfInBounds_toArray]); (try simp only [List.set_cons_succ]); (try simp only [List.set_cons_zero])
          refine wpLexP_pure ?_ ?_ ?_ ?_
          focus exact wanted_yes rfl rfl
          rotate_left
          focus (intro wq hq; go_simp; first | done | with_reducible rfl)
          (simp only [Act.put, List.setIfInBounds_toArray]); (try simp only [List.set_cons_succ]); (try simp only [List.set_cons_zero])
          refine wpLexP_pure ?_ ?_ ?_ ?_
          focus exact wanted_yes rfl rfl
          rotate_left
          focus (intro wq hq; go_simp; first | done | with_reducible rfl)
          (simp only [Act.put, List.setIfInBounds_toArray]); (try simp only [List.set_cons_succ]); (try simp only [List.set_cons_zero])
          refine wpLexP_pure ?_ ?_ ?_ ?_
          focus exact wanted_yes rfl rfl
          rotate_left
          focus (intro wq hq; go_simp; first | done | with_reducible rfl)
          (simp only [Act.put, List.setIfInBounds_toArray]); (try simp only [List.set_cons_succ]); (try simp only [List.set_cons_zero])
          refine wpLexP_pure ?_ ?_ ?_ ?_
          focus exact wanted_yes rfl rfl
          rotate_left
          focus (intro wq hq; go_simp; first | done | with_reducible rfl)
          (simp only [Act.put, List.setIfInBounds_toArray]); (try simp only [List.set_cons_succ]); (try simp only [List.set_cons_zero])
          refine wpLexP_pure ?_ ?_ ?_ ?_
          focus exact wanted_yes rfl rfl
          rotate_left
          focus (intro wq hq; go_simp; first | done | with_reducible rfl)
          (simp only [Act.put, List.setIfInBounds_toArray]); (try simp only [List.set_cons_succ]); (try simp only [List.set_cons_zero])
          refine wpLexP_pure ?_ ?_ ?_ ?_
          focus exact wanted_yes rfl rfl
          rotate_left
          focus (intro wq hq; go_simp; first | done | with_reducible rfl)
          (simp only [Act.put, List.setIfInBounds_toArray]); (try simp only [List.set_cons_succ]); (try simp only [List.set_cons_zero])
          refine wpLexP_pure ?_ ?_ ?_ ?_
          focus exact wanted_yes rfl rfl
          rotate_left
          focus (intro wq hq; go_simp; first | done | with_reducible rfl)
          (simp only [Act.put, List.setIfInBounds_toArray]); (try simp only [List.set_cons_succ]); (try simp only [List.set_cons_zero])
          refine wpLexP_pure ?_ ?_ ?_ ?_
          focus exact wanted_yes rfl rfl
          rotate_left
          focus (intro wq hq; go_simp; first | done | with_reducible rfl)
          (simp only [Act.put, List.setIfInBounds_toArray]); (try simp only [List.set_cons_succ]); (try simp only [List.set_cons_zero])
          refine wpLexP_pure ?_ ?_ ?_ ?_
          focus exact wanted_yes rfl rfl
          rotate_left
          focus (intro wq hq; go_simp; first | done | with_reducible rfl)
          (simp only [Act.put, List.setIfInBounds_toArray]); (try simp only [List.set_cons_succ]); (try simp only [List.set_cons_zero])
          refine wpLexP_solo ?_ (fun K hK => ?_)
          focus exact wanted_yes rfl rfl
          go_simp
          go_at_call 23
          refine (host_any _ _ _ _ (by assumption) (by assumption) (by assumption) (by assumption)).mono ?_
          rintro e w' ⟨rfl, rfl⟩
          refine hK.out _ _ ?_ ?_
          focus (repeat (first | with_reducible assumption | refine Since.alloc ?_ _ | refine Since.drew ?_ | refine Since.next ?_ (by with_reducible assumption)))
          clear hK K
          try (simp only [Act.put, List.setIfInBounds_toArray]); (try simp only [List.set_cons_succ]); (try simp only [List.set_cons_zero])
          cases q2 : hostB (z 12) (z 12) (z 14)
          case false =>
            try simp only [q2]
            refine wpLexP_pure ?_ ?_ ?_ ?_
            focus exact wanted_yes rfl rfl
            rotate_left
            focus (intro wq hq; go_simp; first | done | with_reducible rfl)
            (simp only [Act.put, List.setIfInBounds_toArray]); (try simp only [List.set_cons_succ]); (try simp only [List.set_cons_zero])
            refine wpLexP_pure ?_ ?_ ?_ ?_
            focus exact wanted_none rfl
            rotate_left
            focus (intro wq hq; go_simp; first | done | with_reducible rfl)
            (simp only [Act.put, List.setIfInBounds_toArray]); (try simp only [List.set_cons_succ]); (try simp only [List.set_cons_zero])
            refine wpLexP_pure ?_ ?_ ?_ ?_
            focus exact wanted_none rfl
            rotate_left
            focus (intro wq hq; go_simp; first | done | with_reducible rfl)
            (simp only [Act.put, List.setIfInBounds_toArray]); (try simp only [List.set_cons_succ]); (try simp only [List.set_cons_zero])
            refine wpLexP_skip ?_ ?_
            focus exact unwanted rfl rfl rfl
            (simp only [Act.put, List.setIfInBounds_toArray]); (try simp only [List.set_cons_succ]); (try simp only [List.set_cons_zero])
            refine wpLexP_skip ?_ ?_
            focus exact unwanted rfl rfl rfl
            (simp only [Act.put, List.setIfInBounds_toArray]); (try simp only [List.set_cons_succ]); (try simp only [List.set_cons_zero])
            refine wpLexP_skip ?_ ?_
            focus exact unwanted rfl rfl rfl
            (simp only [Act.put, List.setIfInBounds_toArray]); (try simp only [List.set_cons_succ]); (try simp only [List.set_cons_zero])
            refine wpLexP_skip ?_ ?_
            focus exact unwanted rfl rfl rfl
            (simp only [Act.put, List.setIfInBounds_toArray]); (try simp only [List.set_cons_succ]); (try simp only [List.set_cons_zero])
            refine wpLexP_skip ?_ ?_
            focus exact unwanted rfl rfl rfl
            (simp only [Act.put, List.setIfInBounds_toArray]); (try simp only [List.set_cons_succ]); (try simp only [List.set_cons_zero])
            refine wpLexP_skip ?_ ?_
            focus exact unwanted rfl rfl rfl
            (simp only [Act.put, List.setIfInBounds_toArray]); (try simp only [List.set_cons_succ]); (try simp only [List.set_cons_zero])
            refine wpLexP_skip ?_ ?_
            focus exact unwanted rfl rfl rfl
            (simp only [Act.put, List.setIfInBounds_toArray]); (try simp only [List.set_cons_succ]); (try simp only [List.set_cons_zero])
            refine wpLexP_skip ?_ ?_
            focus exact unwanted rfl rfl rfl
            (simp only [Act.put, List.setIfInBounds_toArray]); (try simp only [List.set_cons_succ]); (try simp only [List.set_cons_zero])
            refine wpLexP_skip ?_ ?_
            focus exact unwanted rfl rfl rfl
            (simp only [Act.put, List.setIfInBounds_toArray]); (try simp only [List.set_cons_succ]); (try simp only [List.set_cons_zero])
            refine wpLexP_skip ?_ ?_
            focus exact unwanted rfl rfl rfl
            (simp only [Act.put, List.setIfInBounds_toArray]); (try simp only [List.set_cons_succ]); (try simp only [List.set_cons_zero])
            refine wpLexP_skip ?_ ?_
            focus exact unwanted rfl rfl rfl
            (simp only [Act.put, List.setIfInBounds_toArray]); (try simp only [List.set_cons_succ]); (try simp only [List.set_cons_zero])
            refine wpLexP_skip ?_ ?_
            focus exact unwanted rfl rfl rfl
            (simp only [Act.put, List.setIfInBounds_toArray]); (try simp only [List.set_cons_succ]); (try simp only [List.set_cons_zero])
            refine wpLexP_skip ?_ ?_
            focus exact unwanted rfl rfl rfl
            (simp only [Act.put, List.setIfInBounds_toArray]); (try simp only [List.set_cons_succ]); (try simp only [List.set_cons_zero])
            refine wpLexP_skip ?_ ?_
            focus exact unwanted rfl rfl rfl
            (simp only [Act.put, List.setIfInBounds_toArray]); (try simp only [List.set_cons_succ]); (try simp only [List.set_cons_zero])
            refine wpLexP_pure ?_ ?_ ?_ ?_
            focus exact wanted_none rfl
            rotate_left
            focus (intro wq hq; go_simp; first | done | with_reducible rfl)
            (simp only [Act.put, List.setIfInBounds_toArray]); (try simp only [List.set_cons_succ]); (try simp only [List.set_cons_zero])
            refine wpLexP_nil ?_
            go_wp2_with fail
            go_ret
            refine ⟨ret_bool ?_, (Since.first w _).trans (by repeat (first | with_reducible assumption | refine Since.alloc ?_ _ | refine Since.drew ?_ | refine Since.next ?_ (by with_reducible assumption)))⟩
            go_light
            simp [netsB, uni0, uni1, q0, q1, q2]
          case true =>
            try simp only [q2]
            refine wpLexP_pure ?_ ?_ ?_ ?_
            focus exact wanted_yes rfl rfl
            rotate_left
            focus (intro wq hq; go_simp; first | done | with_reducible rfl)
            (simp only [Act.put, List.setIfInBounds_toArray]); (try simp only [List.set_cons_succ]); (try simp only [List.set_cons_zero])
            refine wpLexP_pure ?_ ?_ ?_ ?_
            focus exact wanted_none rfl
            rotate_left
            focus (intro wq hq; go_simp; first | done | with_reducible rfl)
            (simp only [Act.put, List.setIfInBounds_toArray]); (try simp only [List.set_cons_succ]); (try simp only [List.set_cons_zero])
            refine wpLexP_pure ?_ ?_ ?_ ?_
            focus exact wanted_none rfl
            rotate_left
            focus (intro wq hq; go_simp; first | done | with_reducible rfl)
            (simp only [Act.put, List.setIfInBounds_toArray]); (try simp only [List.set_cons_succ]); (try simp only [List.set_cons_zero])
            refine wpLexP_pure ?_ ?_ ?_ ?_
            focus exact wanted_yes rfl rfl
            rotate_left
            focus (intro wq hq; go_simp; first | done | with_reducible rfl)
            (simp only [Act.put, List.setIfInBounds_toArray]); (try simp only [List.set_cons_succ]); (try simp only [List.set_cons_zero])
            refine wpLexP_pure ?_ ?_ ?_ ?_
            focus exact wanted_yes rfl rfl
            rotate_left
            focus (intro wq hq; go_simp; first | done | with_reducible rfl)
            (simp only [Act.put, List.setIfInBounds_toArray]); (try simp only [List.set_cons_succ]); (try simp only [List.set_cons_zero])
            refine wpLexP_pure ?_ ?_ ?_ ?_
            focus exact wanted_yes rfl rfl
            rotate_left
            focus (intro wq hq; go_simp; first | done | with_reducible rfl)
            (simp only [Act.put, List.setIfInBounds_toArray]); (try simp only [List.set_cons_succ]); (try simp only [List.set_cons_zero])
            refine wpLexP_pure ?_ ?_ ?_ ?_
            focus exact wanted_yes rfl rfl
            rotate_left
            focus (intro wq hq; go_simp; first | done | with_reducible rfl)
            (simp only [Act.put, List.setIfInBounds_toArray]); (try simp only [List.set_cons_succ]); (try simp only [List.set_cons_zero])
            refine wpLexP_pure ?_ ?_ ?_ ?_
            focus exact wanted_yes rfl rfl
            rotate_left
            focus (intro wq hq; go_simp; first | done | with_reducible rfl)
            (simp only [Act.put, List.setIfInBounds_toArray]); (try simp only [List.set_cons_succ]); (try simp only [List.set_cons_zero])
            refine wpLexP_pure ?_ ?_ ?_ ?_
            focus exact wanted_yes rfl rfl
            rotate_left
            focus (intro wq hq; go_simp; first | done | with_reducible rfl)
            (simp only [Act.put, List.setIfInBounds_toArray]); (try simp only [List.set_cons_succ]); (try simp only [List.set_cons_zero])
            refine wpLexP_pure ?_ ?_ ?_ ?_
            focus exact wanted_yes rfl rfl
            rotate_left
            focus (intro wq hq; go_simp; first | done | with_reducible rfl)
            (simp only [Act.put, List.setIfInBounds_toArray]); (try simp only [List.set_cons_succ]); (try simp only [List.set_cons_zero])
            refine wpLexP_pure ?_ ?_ ?_ ?_
            focus exact wanted_yes rfl rfl
            rotate_left
            focus (intro wq hq; go_simp; first | done | with_reducible rfl)
            (simp only [Act.put, List.setIfInBounds_toArray]); (try simp only [List.set_cons_succ]); (try simp only [List.set_cons_zero])
            refine wpLexP_pure ?_ ?_ ?_ ?_
            focus exact wanted_yes rfl rfl
            rotate_left
            focus (intro wq hq; go_simp; first | done | with_reducible rfl)
            (simp only [Act.put, List.setIfInBounds_toArray]); (try simp only [List.set_cons_succ]); (try simp only [List.set_cons_zero])
            refine wpLexP_pure ?_ ?_ ?_ ?_
            focus exact wanted_yes rfl rfl
            rotate_left
            focus (intro wq hq; go_simp; first | done | with_reducible rfl)
            (simp only [Act.put, List.setIfInBounds_toArray]); (try simp only [List.set_cons_succ]); (try simp only [List.set_cons_zero])
            refine wpLexP_pure ?_ ?_ ?_ ?_
            focus exact wanted_yes rfl rfl
            rotate_left
            focus (intro wq hq; go_simp; first | done | with_reducible rfl)
            (simp only [Act.put, List.setIfInBounds_toArray]); (try simp only [List.set_cons_succ]); (try simp only [List.set_cons_zero])
            refine wpLexP_pure ?_ ?_ ?_ ?_
            focus exact wanted_yes rfl rfl
            rotate_left
            focus (intro wq hq; go_simp; first | done | with_reducible rfl)
            (simp only [Act.put, List.setIfInBounds_toArray]); (try simp only [List.set_cons_succ]); (try simp only [List.set_cons_zero])
            refine wpLexP_pure ?_ ?_ ?_ ?_
            focus exact wanted_yes rfl rfl
            rotate_left
            focus (intro wq hq; go_simp; first | done | with_reducible rfl)
            (simp only [Act.put, List.setIfInBounds_toArray]); (try simp only [List.set_cons_succ]); (try simp only [List.set_cons_zero])
            refine wpLexP_solo ?_ (fun K hK => ?_)
            focus exact wanted_yes rfl rfl
            go_simp
            go_at_call 21
            refine (in_any _ _ _ _ (by assumption) (by assumption) (by assumption) (by assumption)).mono ?_
            rintro e w' ⟨rfl, rfl⟩
            refine hK.out _ _ ?_ ?_
            focus (repeat (first | with_reducible assumption | refine Since.alloc ?_ _ | refine Since.drew ?_ | refine Since.next ?_ (by with_reducible assumption)))
            clear hK K
            try (simp only [Act.put, List.setIfInBounds_toArray]); (try simp only [List.set_cons_succ]); (try simp only [List.set_cons_zero])
            cases q3 : inB (z 13) (z 12) (z 14)
            case false =>
              try simp only [q3]
              refine wpLexP_pure ?_ ?_ ?_ ?_
              focus exact wanted_none rfl
              rotate_left
              focus (intro wq hq; go_simp; first | done | with_reducible rfl)
              (simp only [Act.put, List.setIfInBounds_toArray]); (try simp only [List.set_cons_succ]); (try simp only [List.set_cons_zero])
              refine wpLexP_nil ?_
              go_wp2_with fail
              go_roundw
              case rel => exact ⟨1, by omega, rfl, by repeat (first | with_reducible assumption | refine Since.alloc ?_ _ | refine Since.drew ?_ | refine Since.next ?_ (by with_reducible assumption)), fun _ => by simp [passB, uni0, q0, q1, q2, q3], fun h => by omega⟩
              case measure => simp [intOf]
            case true =>
              try simp only [q3]
              refine wpLexP_pure ?_ ?_ ?_ ?_
              focus exact wanted_none rfl
              rotate_left
              focus (intro wq hq; go_simp; first | done | with_reducible rfl)
              (simp only [Act.put, List.setIfInBounds_toArray]); (try simp only [List.set_cons_succ]); (try simp only [List.set_cons_zero])
              refine wpLexP_nil ?_
              go_wp2_with fail
              go_ret
              refine ⟨ret_bool ?_, (Since.first w _).trans (by repeat (first | with_reducible assumption | refine Since.alloc ?_ _ | refine Since.drew ?_ | refine Since.next ?_ (by with_reducible assumption)))⟩
              go_light
              simp [netsB, uni0, uni1, q0, q1, q2, q3]
    · -- card 1
      go_wp2_with fail
      refine wp_region_lexp (Since (w.alloc (.cells cs 33))) [false, false, false, false, true, false, false, false, false, false, false, true, true, false, false, false, false, false, false, false, false, false, false, false, false, false, false, false, true, false, false, false, false, false, false, false, false, false, false, false, false, false, false, false, false, true, false] (by kernel_rfl) nets4_ok (by intro c a d v w h; cases d <;> exact h) hb.drew ?_
      refine wpLexP_pure ?_ ?_ ?_ ?_
      focus exact wanted_none rfl
      rotate_left
      focus (intro wq hq; go_simp; first | done | with_reducible rfl)
      (simp only [Act.put, List.setIfInBounds_toArray]); (try simp only [List.set_cons_succ]); (try simp only [List.set_cons_zero])
      refine wpLexP_pure ?_ ?_ ?_ ?_
      focus exact wanted_none rfl
      rotate_left
      focus (intro wq hq; go_simp; first | done | with_reducible rfl)
      (simp only [Act.put, List.setIfInBounds_toArray]); (try simp only [List.set_cons_succ]); (try simp only [List.set_cons_zero])
      refine wpLexP_pure ?_ ?_ ?_ ?_
      focus exact wanted_none rfl
      rotate_left
      focus (intro wq hq; go_simp; first | done | with_reducible rfl)
      (simp only [Act.put, List.setIfInBounds_toArray]); (try simp only [List.set_cons_succ]); (try simp only [List.set_cons_zero])
      refine wpLexP_pure ?_ ?_ ?_ ?_
      focus exact wanted_none rfl
      rotate_left
      focus (intro wq hq; go_simp; first | done | with_reducible rfl)
      (simp only [Act.put, List.setIfInBounds_toArray]); (try simp only [List.set_cons_succ]); (try simp only [List.set_cons_zero])
      refine wpLexP_solo ?_ (fun K hK => ?_)
      focus exact wanted_none rfl
      go_simp
      go_at_call 22
      refine (uni_any _ _ _ _ _ _ _ (by assumption) (by assumption)).mono ?_
      rintro e w1 ⟨rfl, hb1⟩
      refine hK.out _ _ ?_ ?_
      focus (repeat (first | with_reducible assumption | refine Since.alloc ?_ _ | refine Since.drew ?_ | refine Since.next ?_ (by with_reducible assumption)))
      clear hK K
      try (simp only [Act.put, List.setIfInBounds_toArray]); (try simp only [List.set_cons_succ]); (try simp only [List.set_cons_zero])
      cases q0 : uniB (z 6) (z 7) (z 8) (z 9) (z 10) (z 11)
      case false =>
        try simp only [q0]
        refine wpLexP_pure ?_ ?_ ?_ ?_
        focus exact wanted_none rfl
        rotate_left
        focus (intro wq hq; go_simp; first | done | with_reducible rfl)
        (simp only [Act.put, List.setIfInBounds_toArray]); (try simp only [List.set_cons_succ]); (try simp only [List.set_cons_zero])
        refine wpLexP_pure ?_ ?_ ?_ ?_
        focus exact wanted_none rfl
        rotate_left
        focus (intro wq hq; go_simp; first | done | with_reducible rfl)
        (simp only [Act.put, List.setIfInBounds_toArray]); (try simp only [List.set_cons_succ]); (try simp only [List.set_cons_zero])
        refine wpLexP_skip ?_ ?_
        focus exact unwanted rfl rfl rfl
        (simp only [Act.put, List.setIfInBounds_toArray]); (try simp only [List.set_cons_succ]); (try simp only [List.set_cons_zero])
        refine wpLexP_skip ?_ ?_
        focus exact unwanted rfl rfl rfl
        (simp only [Act.put, List.setIfInBounds_toArray]); (try simp only [List.set_cons_succ]); (try simp only [List.set_cons_zero])
        refine wpLexP_skip ?_ ?_
        focus exact unwanted rfl rfl rfl
        (simp only [Act.put, List.setIfInBounds_toArray]); (try simp only [List.set_cons_succ]); (try simp only [List.set_cons_zero])
        refine wpLexP_skip ?_ ?_
        focus exact unwanted rfl rfl rfl
        (simp only [Act.put, List.setIfInBounds_toArray]); (try simp only [List.set_cons_succ]); (try simp only [List.set_cons_zero])
        refine wpLexP_skip ?_ ?_
        focus exact unwanted rfl rfl rfl
        (simp only [Act.put, List.setIfInBounds_toArray]); (try simp only [List.set_cons_succ]); (try simp only [List.set_cons_zero])
        refine wpLexP_skip ?_ ?_
        focus exact unwanted rfl rfl rfl
        (simp only [Act.put, List.setIfInBounds_toArray]); (try simp only [List.set_cons_succ]); (try simp only [List.set_cons_zero])
        refine wpLexP_skip ?_ ?_
        focus exact unwanted rfl rfl rfl
        (simp only [Act.put, List.setIfInBounds_toArray]); (try simp only [List.set_cons_succ]); (try simp only [List.set_cons_zero])
        refine wpLexP_pure ?_ ?_ ?_ ?_
        focus exact wanted_none rfl
        rotate_left
        focus (intro wq hq; go_simp; first | done | with_reducible rfl)
        (simp only [Act.put, List.setIfInBounds_toArray]); (try simp only [List.set_cons_succ]); (try simp only [List.set_cons_zero])
        refine wpLexP_pure ?_ ?_ ?_ ?_
        focus exact wanted_none rfl
        rotate_left
        focus (intro wq hq; go_simp; first | done | with_reducible rfl)
        (simp only [Act.put, List.setIfInBounds_toArray]); (try simp only [List.set_cons_succ]); (try simp only [List.set_cons_zero])
        refine wpLexP_skip ?_ ?_
        focus exact unwanted rfl rfl rfl
        (simp only [Act.put, List.setIfInBounds_toArray]); (try simp only [List.set_cons_succ]); (try simp only [List.set_cons_zero])
        refine wpLexP_skip ?_ ?_
        focus exact unwanted rfl rfl rfl
        (simp only [Act.put, List.setIfInBounds_toArray]); (try simp only [List.set_cons_succ]); (try simp only [List.set_cons_zero])
        refine wpLexP_skip ?_ ?_
        focus exact unwanted rfl rfl rfl
        (simp only [Act.put, List.setIfInBounds_toArray]); (try simp only [List.set_cons_succ]); (try simp only [List.set_cons_zero])
        refine wpLexP_skip ?_ ?_
        focus exact unwanted rfl rfl rfl
        (simp only [Act.put, List.setIfInBounds_toArray]); (try simp only [List.set_cons_succ]); (try simp only [List.set_cons_zero])
        refine wpLexP_skip ?_ ?_
        focus exact unwanted rfl rfl rfl
        (simp only [Act.put, List.setIfInBounds_toArray]); (try simp only [List.set_cons_succ]); (try simp only [List.set_cons_zero])
        refine wpLexP_skip ?_ ?_
        focus exact unwanted rfl rfl rfl
        (simp only [Act.put, List.setIfInBounds_toArray]); (try simp only [List.set_cons_succ]); (try simp only [List.set_cons_zero])
        refine wpLexP_skip ?_ ?_
        focus exact unwanted rfl rfl rfl
        (simp only [Act.put, List.setIfInBounds_toArray]); (try simp only [List.set_cons_succ]); (try simp only [List.set_cons_zero])
        refine wpLexP_skip ?_ ?_
        focus exact unwanted rfl rfl rfl
        (simp only [Act.put, List.setIfInBounds_toArray]); (try simp only [List.set_cons_succ]); (try simp only [List.set_cons_zero])
        refine wpLexP_skip ?_ ?_
        focus exact unwanted rfl rfl rfl
        (simp only [Act.put, List.setIfInBounds_toArray]); (try simp only [List.set_cons_succ]); (try simp only [List.set_cons_zero])
        refine wpLexP_skip ?_ ?_
        focus exact unwanted rfl rfl rfl
        (simp only [Act.put, List.setIfInBounds_toArray]); (try simp only [List.set_cons_succ]); (try simp only [List.set_cons_zero])
        refine wpLexP_skip ?_ ?_
        focus exact unwanted rfl rfl rfl
        (simp only [Act.put, List.setIfInBounds_toArray]); (try simp only [List.set_cons_succ]); (try simp only [List.set_cons_zero])
        refine wpLexP_skip ?_ ?_
        focus exact unwanted rfl rfl rfl
        (simp only [Act.put, List.setIfInBounds_toArray]); (try simp only [List.set_cons_succ]); (try simp only [List.set_cons_zero])
        refine wpLexP_skip ?_ ?_
        focus exact unwanted rfl rfl rfl
        (simp only [Act.put, List.setIfInBounds_toArray]); (try simp only [List.set_cons_succ]); (try simp only [List.set_cons_zero])
        refine wpLexP_skip ?_ ?_
        focus exact unwanted rfl rfl rfl
        (simp only [Act.put, List.setIfInBounds_toArray]); (try simp only [List.set_cons_succ]); (try simp only [List.set_cons_zero])
        refine wpLexP_pure ?_ ?_ ?_ ?_
        focus exact wanted_none rfl
        rotate_left
        focus (intro wq hq; go_simp; first | done | with_reducible rfl)
        (simp only [Act.put, List.setIfInBounds_toArray]); (try simp only [List.set_cons_succ]); (try simp only [List.set_cons_zero])
        refine wpLexP_pure ?_ ?_ ?_ ?_
        focus exact wanted_none rfl
        rotate_left
        focus (intro wq hq; go_simp; first | done | with_reducible rfl)
        (simp only [Act.put, List.setIfInBounds_toArray]); (try simp only [List.set_cons_succ]); (try simp only [List.set_cons_zero])
        refine wpLexP_skip ?_ ?_
        focus exact unwanted rfl rfl rfl
        (simp only [Act.put, List.setIfInBounds_toArray]); (try simp only [List.set_cons_succ]); (try simp only [List.set_cons_zero])
        refine wpLexP_skip ?_ ?_
        focus exact unwanted rfl rfl rfl
        (simp only [Act.put, List.setIfInBounds_toArray]); (try simp only [List.set_cons_succ]); (try simp only [List.set_cons_zero])
        refine wpLexP_skip ?_ ?_
        focus exact unwanted rfl rfl rfl
        (simp only [Act.put, List.setIfInBounds_toArray]); (try simp only [List.set_cons_succ]); (try simp only [List.set_cons_zero])
        refine wpLexP_skip ?_ ?_
        focus exact unwanted rfl rfl rfl
        (simp only [Act.put, List.setIfInBounds_toArray]); (try simp only [List.set_cons_succ]); (try simp only [List.set_cons_zero])
        refine wpLexP_skip ?_ ?_
        focus exact unwanted rfl rfl rfl
        (simp only [Act.put, List.setIfInBounds_toArray]); (try simp only [List.set_cons_succ]); (try simp only [List.set_cons_zero])
        refine wpLexP_skip ?_ ?_
        focus exact unwanted rfl rfl rfl
        (simp only [Act.put, List.setIfInBounds_toArray]); (try simp only [List.set_cons_succ]); (try simp only [List.set_cons_zero])
        refine wpLexP_skip ?_ ?_
        focus exact unwanted rfl rfl rfl
        (simp only [Act.put, List.setIfInBounds_toArray]); (try simp only [List.set_cons_succ]); (try simp only [List.set_cons_zero])
        refine wpLexP_skip ?_ ?_
        focus exact unwanted rfl rfl rfl
        (simp only [Act.put, List.setIfInBounds_toArray]); (try simp only [List.set_cons_succ]); (try simp only [List.set_cons_zero])
        refine wpLexP_skip ?_ ?_
        focus exact unwanted rfl rfl rfl
        (simp only [Act.put, List.setIfInBounds_toArray]); (try simp only [List.set_cons_succ]); (try simp only [List.set_cons_zero])
        refine wpLexP_skip ?_ ?_
        focus exact unwanted rfl rfl rfl
        (simp only [Act.put, List.setIfInBounds_toArray]); (try simp only [List.set_cons_succ]); (try simp only [List.set_cons_zero])
        refine wpLexP_skip ?_ ?_
        focus exact unwanted rfl rfl rfl
        (simp only [Act.put, List.setIfInBounds_toArray]); (try simp only [List.set_cons_succ]); (try simp only [List.set_cons_zero])
        refine wpLexP_skip ?_ ?_
        focus exact unwanted rfl rfl rfl
        (simp only [Act.put, List.setIfInBounds_toArray]); (try simp only [List.set_cons_succ]); (try simp only [List.set_cons_zero])
        refine wpLexP_skip ?_ ?_
        focus exact unwanted rfl rfl rfl
        (simp only [Act.put, List.setIfInBounds_toArray]); (try simp only [List.set_cons_succ]); (try simp only [List.set_cons_zero])
        refine wpLexP_skip ?_ ?_
        focus exact unwanted rfl rfl rfl
        (simp only [Act.put, List.setIfInBounds_toArray]); (try simp only [List.set_cons_succ]); (try simp only [List.set_cons_zero])
        refine wpLexP_pure ?_ ?_ ?_ ?_
        focus exact wanted_none rfl
        rotate_left
        focus (intro wq hq; go_simp; first | done | with_reducible rfl)
        (simp only [Act.put, List.setIfInBounds_toArray]); (try simp only [List.set_cons_succ]); (try simp only [List.set_cons_zero])
        refine wpLexP_nil ?_
        go_wp2_with fail
        go_ret
        refine ⟨ret_bool ?_, (Since.first w _).trans (by repeat (first | with_reducible assumption | refine Since.alloc ?_ _ | refine Since.drew ?_ | refine Since.next ?_ (by with_reducible assumption)))⟩
        go_light
        simp [netsB, uni0, uni1, q0]
      case true =>
        try simp only [q0]
        refine wpLexP_pure ?_ ?_ ?_ ?_
        focus exact wanted_none rfl
        rotate_left
        focus (intro wq hq; go_simp; first | done | with_reducible rfl)
        (simp only [Act.put, List.setIfInBounds_toArray]); (try simp only [List.set_cons_succ]); (try simp only [List.set_cons_zero])
        refine wpLexP_pure ?_ ?_ ?_ ?_
        focus exact wanted_none rfl
        rotate_left
        focus (intro wq hq; go_simp; first | done | with_reducible rfl)
        (simp only [Act.put, List.setIfInBounds_toArray]); (try simp only [List.set_cons_succ]); (try simp only [List.set_cons_zero])
        refine wpLexP_pure ?_ ?_ ?_ ?_
        focus exact wanted_yes rfl rfl
        rotate_left
        focus (intro wq hq; go_simp; first | done | with_reducible rfl)
        (simp only [Act.put, List.setIfInBounds_toArray]); (try simp only [List.set_cons_succ]); (try simp only [List.set_cons_zero])
        refine wpLexP_pure ?_ ?_ ?_ ?_
        focus exact wanted_yes rfl rfl
        rotate_left
        focus (intro wq hq; go_simp; first | done | with_reducible rfl)
        (simp only [Act.put, List.setIfInBounds_toArray]); (try simp only [List.set_cons_succ]); (try simp only [List.set_cons_zero])
        refine wpLexP_pure ?_ ?_ ?_ ?_
        focus exact wanted_yes rfl rfl
        rotate_left
        focus (intro wq hq; go_simp; first | done | with_reducible rfl)
        (simp only [Act.put, List.setIfInBounds_toArray]); (try simp only [List.set_cons_succ]); (try simp only [List.set_cons_zero])
        refine wpLexP_pure ?_ ?_ ?_ ?_
        focus exact wanted_yes rfl rfl
        rotate_left
        focus (intro wq hq; go_simp; first | done | with_reducible rfl)
        (simp only [Act.put, List.setIfInBounds_toArray]); (try simp only [List.set_cons_succ]); (try simp only [List.set_cons_zero])
        refine wpLexP_solo ?_ (fun K hK => ?_)
        focus exact wanted_yes rfl rfl
        go_simp
        refine hK.out _ _ ?_ ?_
        focus (repeat (first | with_reducible assumption | refine Since.alloc ?_ _ | refine Since.drew ?_ | refine Since.next ?_ (by with_reducible assumption)))
        clear hK K
        try (simp only [Act.put, List.setIfInBounds_toArray]); (try simp only [List.set_cons_succ]); (try simp only [List.set_cons_zero])
        refine wpLexP_solo ?_ (fun K hK => ?_)
        focus exact wanted_yes rfl rfl
        go_simp
        go_at_call 12
        refine (within_any 8 30 _ _ 1 _ (fun _ => z 15) _ (by omega) (by intro i hi; (obtain rfl : i = 0 := by omega); simp [go_sem])).mono ?_
        rintro e w' ⟨rfl, rfl⟩
        refine hK.out _ _ ?_ ?_
        focus (repeat (first | with_reducible assumption | refine Since.alloc ?_ _ | refine Since.drew ?_ | refine Since.next ?_ (by with_reducible assumption)))
        clear hK K
        try (simp only [Act.put, List.setIfInBounds_toArray]); (try simp only [List.set_cons_succ]); (try simp only [List.set_cons_zero])
        cases q1 : allIn 8 30 (fun _ => z 15) 1
        case false =>
          try simp only [q1]
          refine wpLexP_pure ?_ ?_ ?_ ?_
          focus exact wanted_yes rfl rfl
          rotate_left
          focus (intro wq hq; go_simp; first | done | with_reducible rfl)
          (simp only [Act.put, List.setIfInBounds_toArray]); (try simp only [List.set_cons_succ]); (try simp only [List.set_cons_zero])
          refine wpLexP_pure ?_ ?_ ?_ ?_
          focus exact wanted_none rfl
          rotate_left
          focus (intro wq hq; go_simp; first | done | with_reducible rfl)
          (simp only [Act.put, List.setIfInBounds_toArray]); (try simp only [List.set_cons_succ]); (try simp only [List.set_cons_zero])
          refine wpLexP_pure ?_ ?_ ?_ ?_
          focus exact wanted_none rfl
          rotate_left
          focus (intro wq hq; go_simp; first | done | with_reducible rfl)
          (simp only [Act.put, List.setIfInBounds_toArray]); (try simp only [List.set_cons_succ]); (try simp only [List.set_cons_zero])
          refine wpLexP_skip ?_ ?_
          focus exact unwanted rfl rfl rfl
          (simp only [Act.put, List.setIfInBounds_toArray]); (try simp only [List.set_cons_succ]); (try simp only [List.set_cons_zero])
          refine wpLexP_skip ?_ ?_
          focus exact unwanted rfl rfl rfl
          (simp only [Act.put, List.setIfInBounds_toArray]); (try simp only [List.set_cons_succ]); (try simp only [List.set_cons_zero])
          refine wpLexP_skip ?_ ?_
          focus exact unwanted rfl rfl rfl
          (simp only [Act.put, List.setIfInBounds_toArray]); (try simp only [List.set_cons_succ]); (try simp only [List.set_cons_zero])
          refine wpLexP_skip ?_ ?_
          focus exact unwanted rfl rfl rfl
          (simp only [Act.put, List.setIfInBounds_toArray]); (try simp only [List.set_cons_succ]); (try simp only [List.set_cons_zero])
          refine wpLexP_skip ?_ ?_
          focus exact unwanted rfl rfl rfl
          (simp only [Act.put, List.setIfInBounds_toArray]); (try simp only [List.set_cons_succ]); (try simp only [List.set_cons_zero])
          refine wpLexP_skip ?_ ?_
          focus exact unwanted rfl rfl rfl
          (simp only [Act.put, List.setIfInBounds_toArray]); (try simp only [List.set_cons_succ]); (try simp only [List.set_cons_zero])
          refine wpLexP_skip ?_ ?_
          focus exact unwanted rfl rfl rfl
          (simp only [Act.put, List.setIfInBounds_toArray]); (try simp only [List.set_cons_succ]); (try simp only [List.set_cons_zero])
          refine wpLexP_skip ?_ ?_
          focus exact unwanted rfl rfl rfl
          (simp only [Act.put, List.setIfInBounds_toArray]); (try simp only [List.set_cons_succ]); (try simp only [List.set_cons_zero])
          refine wpLexP_skip ?_ ?_
          focus exact unwanted rfl rfl rfl
          (simp only [Act.put, List.setIfInBounds_toArray]); (try simp only [List.set_cons_succ]); (try simp only [List.set_cons_zero])
          refine wpLexP_skip ?_ ?_
          focus exact unwanted rfl rfl rfl
          (simp only [Act.put, List.setIfInBounds_toArray]); (try simp only [List.set_cons_succ]); (try simp only [List.set_cons_zero])
          refine wpLexP_skip ?_ ?_
          focus exact unwanted rfl rfl rfl
          (simp only [Act.put, List.setIfInBounds_toArray]); (try simp only [List.set_cons_succ]); (try simp only [List.set_cons_zero])
          refine wpLexP_skip ?_ ?_
          focus exact unwanted rfl rfl rfl
          (simp only [Act.put, List.setIfInBounds_toArray]); (try simp only [List.set_cons_succ]); (try simp only [List.set_cons_zero])
          refine wpLexP_skip ?_ ?_
          focus exact unwanted rfl rfl rfl
          (simp only [Act.put, List.setIfInBounds_toArray]); (try simp only [List.set_cons_succ]); (try simp only [List.set_cons_zero])
          refine wpLexP_skip ?_ ?_
          focus exact unwanted rfl rfl rfl
          (simp only [Act.put, List.setIfInBounds_toArray]); (try simp only [List.set_cons_succ]); (try simp only [List.set_cons_zero])
          refine wpLexP_pure ?_ ?_ ?_ ?_
          focus exact wanted_none rfl
          rotate_left
          focus (intro wq hq; go_simp; first | done | with_reducible rfl)
          (simp only [Act.put, List.setIfInBounds_toArray]); (try simp only [List.set_cons_succ]); (try simp only [List.set_cons_zero])
          refine wpLexP_pure ?_ ?_ ?_ ?_
          focus exact wanted_none rfl
          rotate_left
          focus (intro wq hq; go_simp; first | done | with_reducible rfl)
          (simp only [Act.put, List.setIfInBounds_toArray]); (try simp only [List.set_cons_succ]); (try simp only [List.set_cons_zero])
          refine wpLexP_skip ?_ ?_
          focus exact unwanted rfl rfl rfl
          (simp only [Act.put, List.setIfInBounds_toArray]); (try simp only [List.set_cons_succ]); (try simp only [List.set_cons_zero])
          refine wpLexP_skip ?_ ?_
          focus exact unwanted rfl rfl rfl
          (simp only [Act.put, List.setIfInBounds_toArray]); (try simp only [List.set_cons_succ]); (try simp only [List.set_cons_zero])
          refine wpLexP_skip ?_ ?_
          focus exact unwanted rfl rfl rfl
          (simp only [Act.put, List.setIfInBounds_toArray]); (try simp only [List.set_cons_succ]); (try simp only [List.set_cons_zero])
          refine wpLexP_skip ?_ ?_
          focus exact unwanted rfl rfl rfl
          (simp only [Act.put, List.setIfInBounds_toArray]); (try simp only [List.set_cons_succ]); (try simp only [List.set_cons_zero])
          refine wpLexP_skip ?_ ?_
          focus exact unwanted rfl rfl rfl
          (simp only [Act.put, List.setIfInBounds_toArray]); (try simp only [List.set_cons_succ]); (try simp only [List.set_cons_zero])
          refine wpLexP_skip ?_ ?_
          focus exact unwanted rfl rfl rfl
          (simp only [Act.put, List.setIfInBounds_toArray]); (try simp only [List.set_cons_succ]); (try simp only [List.set_cons_zero])
          refine wpLexP_skip ?_ ?_
          focus exact unwanted rfl rfl rfl
          (simp only [Act.put, List.setIfInBounds_toArray]); (try simp only [List.set_cons_succ]); (try simp only [List.set_cons_zero])
          refine wpLexP_skip ?_ ?_
          focus exact unwanted rfl rfl rfl
          (simp only [Act.put, List.setIfInBounds_toArray]); (try simp only [List.set_cons_succ]); (try simp only [List.set_cons_zero])
          refine wpLexP_skip ?_ ?_
          focus exact unwanted rfl rfl rfl
          (simp only [Act.put, List.setIfInBounds_toArray]); (try simp only [List.set_cons_succ]); (try simp only [List.set_cons_zero])
          refine wpLexP_skip ?_ ?_
          focus exact unwanted rfl rfl rfl
          (simp only [Act.put, List.setIfInBounds_toArray]); (try simp only [List.set_cons_succ]); (try simp only [List.set_cons_zero])
          refine wpLexP_skip ?_ ?_
          focus exact unwanted rfl rfl rfl
          (simp only [Act.put, List.setIfInBounds_toArray]); (try simp only [List.set_cons_succ]); (try simp only [List.set_cons_zero])
          refine wpLexP_skip ?_ ?_
          focus exact unwanted rfl rfl rfl
          (simp only [Act.put, List.setIfInBounds_toArray]); (try simp only [List.set_cons_succ]); (try simp only [List.set_cons_zero])
          refine wpLexP_skip ?_ ?_
          focus exact unwanted rfl rfl rfl
          (simp only [Act.put, List.setIfInBounds_toArray]); (try simp only [List.set_cons_succ]); (try simp only [List.set_cons_zero])
          refine wpLexP_skip ?_ ?_
          focus exact unwanted rfl rfl rfl
          (simp only [Act.put, List.setIfInBounds_toArray]); (try simp only [List.set_cons_succ]); (try simp only [List.set_cons_zero])
          refine wpLexP_pure ?_ ?_ ?_ ?_
          focus exact wanted_none rfl
          rotate_left
          focus (intro wq hq; go_simp; first | done | with_reducible rfl)
          (simp only [Act.put, List.setIfInBounds_toArray]); (try simp only [List.set_cons_succ]); (try simp only [List.set_cons_zero])
          refine wpLexP_nil ?_
          go_wp2_with fail
          go_ret
          refine ⟨ret_bool ?_, (Since.first w _).trans (by repeat (first | with_reducible assumption | refine Since.alloc ?_ _ | refine Since.drew ?_ | refine Since.next ?_ (by with_reducible assumption)))⟩
          go_light
          simp [netsB, uni0, uni1, q0, q1]
        case true =>
          try simp only [q1]
          refine wpLexP_pure ?_ ?_ ?_ ?_
          focus exact wanted_yes rfl rfl
          rotate_left
          focus (intro wq hq; go_simp; first | done | with_reducible rfl)
          (simp only [Act.put, List.setIfInBounds_toArray]); (try simp only [List.set_cons_succ]); (try simp only [List.set_cons_zero])
          refine wpLexP_pure ?_ ?_ ?_ ?_
          focus exact wanted_none rfl
          rotate_left
          focus (intro wq hq; go_simp; first | done | with_reducible rfl)
          (simp only [Act.put, List.setIfInBounds_toArray]); (try simp only [List.set_cons_succ]); (try simp only [List.set_cons_zero])
          refine wpLexP_pure ?_ ?_ ?_ ?_
          focus exact wanted_none rfl
          rotate_left
          focus (intro wq hq; go_simp; first | done | with_reducible rfl)
          (simp only [Act.put, List.setIfInBounds_toArray]); (try simp only [List.set_cons_succ]); (try simp only [List.set_cons_zero])
          refine wpLexP_pure ?_ ?_ ?_ ?_
          focus exact wanted_yes rfl rfl
          rotate_left
          focus (intro wq hq; go_simp; first | done | with_reducible rfl)
          (simp only [Act.put, List.setIfInBounds_toArray]); (try simp only [List.set_cons_succ]); (try simp only [List.set_cons_zero])
          refine wpLexP_pure ?_ ?_ ?_ ?_
          focus exact wanted_yes rfl rfl
          rotate_left
          focus (intro wq hq; go_simp; first | done | with_reducible rfl)
          (simp only [Act.put, List.setIfInBounds_toArray]); (try simp only [List.set_cons_succ]); (try simp only [List.set_cons_zero])
          refine wpLexP_pure ?_ ?_ ?_ ?_
          focus exact wanted_yes rfl rfl
          rotate_left
          focus (intro wq hq; go_simp; first | done | with_reducible rfl)
          (simp only [Act.put, List.setIfInBounds_toArray]); (try simp only [List.set_cons_succ]); (try simp only [List.set_cons_zero])
          refine wpLexP_pure ?_ ?_ ?_ ?_
          focus exact wanted_yes rfl rfl
          rotate_left
          focus (intro wq hq; go_simp; first | done | with_reducible rfl)
          (simp only [Act.put, List.setIfInBounds_toArray]); (try simp only [List.set_cons_succ]); (try simp only [List.set_cons_zero])
          refine wpLexP_pure ?_ ?_ ?_ ?_
          focus exact wanted_yes rfl rfl
          rotate_left
          focus (intro wq hq; go_simp; first | done | with_reducible rfl)
          (simp only [Act.put, List.setIfInBounds_toArray]); (try simp only [List.set_cons_succ]); (try simp only [List.set_cons_zero])
          refine wpLexP_pure ?_ ?_ ?_ ?_
          focus exact wanted_yes rfl rfl
          rotate_left
          focus (intro wq hq; go_simp; first | done | with_reducible rfl)
          (simp only [Act.put, List.setIfInBounds_toArray]); (try simp only [List.set_cons_succ]); (try simp only [List.set_cons_zero])
          refine wpLexP_pure ?_ ?_ ?_ ?_
          focus exact wanted_yes rfl rfl
          rotate_left
          focus (intro wq hq; go_simp; first | done | with_reducible rfl)
          (simp only [Act.put, List.setIfInBounds_toArray]); (try simp only [List.set_cons_succ]); (try simp only [List.set_cons_zero])
          refine wpLexP_pure ?_ ?_ ?_ ?_
          focus exact wanted_yes rfl rfl
          rotate_left
          focus (intro wq hq; go_simp; first | done | with_reducible rfl)
          (simp only [Act.put, List.setIfInBounds_toArray]); (try simp only [List.set_cons_succ]); (try simp only [List.set_cons_zero])
          refine wpLexP_pure ?_ ?_ ?_ ?_
          focus exact wanted_yes rfl rfl
          rotate_left
          focus (intro wq hq; go_simp; first | done | with_reducible rfl)
          (simp only [Act.put, List.setIfInBounds_toArray]); (try simp only [List.set_cons_succ]); (try simp only [List.set_cons_zero])
          refine wpLexP_pure ?_ ?_ ?_ ?_
          focus exact wanted_yes rfl rfl
          rotate_left
          focus (intro wq hq; go_simp; first | done | with_reducible rfl)
          (simp only [Act.put, List.setIfInBounds_toArray]); (try simp only [List.set_cons_succ]); (try simp only [List.set_cons_zero])
          refine wpLexP_pure ?_ ?_ ?_ ?_
          focus exact wanted_yes rfl rfl
          rotate_left
          focus (intro wq hq; go_simp; first | done | with_reducible rfl)
          (simp only [Act.put, List.setIfInBounds_toArray]); (try simp only [List.set_cons_succ]); (try simp only [List.set_cons_zero])
          refine wpLexP_pure ?_ ?_ ?_ ?_
          focus exact wanted_yes rfl rfl
          rotate_left
          focus (intro wq hq; go_simp; first | done | with_reducible rfl)
          (simp only [Act.put, List.setIfInBounds_toArray]); (try simp only [List.set_cons_succ]); (try simp only [List.set_cons_zero])
          refine wpLexP_solo ?_ (fun K hK => ?_)
          focus exact wanted_yes rfl rfl
          go_simp
          go_at_call 23
          refine (host_any _ _ _ _ (by assumption) (by assumption) (by assumption) (by assumption)).mono ?_
          rintro e w' ⟨rfl, rfl⟩
          refine hK.out _ _ ?_ ?_
          focus (repeat (first | with_reducible assumption | refine Since.alloc ?_ _ | refine Since.drew ?_ | refine Since.next ?_ (by with_reducible assumption)))
          clear hK K
          try (simp only [Act.put, List.setIfInBounds_toArray]); (try simp only [List.set_cons_succ]); (try simp only [List.set_cons_zero])
          cases q2 : hostB (z 13) (z 13) (z 15)
          case false =>
            try simp only [q2]
            refine wpLexP_pure ?_ ?_ ?_ ?_
            focus exact wanted_yes rfl rfl
            rotate_left
            focus (intro wq hq; go_simp; first | done | with_reducible rfl)
            (simp only [Act.put, List.setIfInBounds_toArray]); (try simp only [List.set_cons_succ]); (try simp only [List.set_cons_zero])
            refine wpLexP_pure ?_ ?_ ?_ ?_
            focus exact wanted_none rfl
            rotate_left
            focus (intro wq hq; go_simp; first | done | with_reducible rfl)
            (simp only [Act.put, List.setIfInBounds_toArray]); (try simp only [List.set_cons_succ]); (try simp only [List.set_cons_zero])
            refine wpLexP_pure ?_ ?_ ?_ ?_
            focus exact wanted_none rfl
            rotate_left
            focus (intro wq hq; go_simp; first | done | with_reducible rfl)
            (simp only [Act.put, List.setIfInBounds_toArray]); (try simp only [List.set_cons_succ]); (try simp only [List.set_cons_zero])
            refine wpLexP_skip ?_ ?_
            focus exact unwanted rfl rfl rfl
            (simp only [Act.put, List.setIfInBounds_toArray]); (try simp only [List.set_cons_succ]); (try simp only [List.set_cons_zero])
            refine wpLexP_skip ?_ ?_
            focus exact unwanted rfl rfl rfl
            (simp only [Act.put, List.setIfInBounds_toArray]); (try simp only [List.set_cons_succ]); (try simp only [List.set_cons_zero])
            refine wpLexP_skip ?_ ?_
            focus exact unwanted rfl rfl rfl
            (simp only [Act.put, List.setIfInBounds_toArray]); (try simp only [List.set_cons_succ]); (try simp only [List.set_cons_zero])
            refine wpLexP_skip ?_ ?_
            focus exact unwanted rfl rfl rfl
            (simp only [Act.put, List.setIfInBounds_toArray]); (try simp only [List.set_cons_succ]); (try simp only [List.set_cons_zero])
            refine wpLexP_skip ?_ ?_
            focus exact unwanted rfl rfl rfl
            (simp only [Act.put, List.setIfInBounds_toArray]); (try simp only [List.set_cons_succ]); (try simp only [List.set_cons_zero])
            refine wpLexP_skip ?_ ?_
            focus exact unwanted rfl rfl rfl
            (simp only [Act.put, List.setIfInBounds_toArray]); (try simp only [List.set_cons_succ]); (try simp only [List.set_cons_zero])
            refine wpLexP_skip ?_ ?_
            focus exact unwanted rfl rfl rfl
            (simp only [Act.put, List.setIfInBounds_toArray]); (try simp only [List.set_cons_succ]); (try simp only [List.set_cons_zero])
            refine wpLexP_skip ?_ ?_
            focus exact unwanted rfl rfl rfl
            (simp only [Act.put, List.setIfInBounds_toArray]); (try simp only [List.set_cons_succ]); (try simp only [List.set_cons_zero])
            refine wpLexP_skip ?_ ?_
            focus exact unwanted rfl rfl rfl
            (simp only [Act.put, List.setIfInBounds_toArray]); (try simp only [List.set_cons_succ]); (try simp only [List.set_cons_zero])
            refine wpLexP_skip ?_ ?_
            focus exact unwanted rfl rfl rfl
            (simp only [Act.put, List.setIfInBounds_toArray]); (try simp only [List.set_cons_succ]); (try simp only [List.set_cons_zero])
            refine wpLexP_skip ?_ ?_
            focus exact unwanted rfl rfl rfl
            (simp only [Act.put, List.setIfInBounds_toArray]); (try simp only [List.set_cons_succ]); (try simp only [List.set_cons_zero])
            refine wpLexP_skip ?_ ?_
            focus exact unwanted rfl rfl rfl
            (simp only [Act.put, List.setIfInBounds_toArray]); (try simp only [List.set_cons_succ]); (try simp only [List.set_cons_zero])
            refine wpLexP_skip ?_ ?_
            focus exact unwanted rfl rfl rfl
            (simp only [Act.put, List.setIfInBounds_toArray]); (try simp only [List.set_cons_succ]); (try simp only [List.set_cons_zero])
            refine wpLexP_skip ?_ ?_
            focus exact unwanted rfl rfl rfl
            (simp only [Act.put, List.setIfInBounds_toArray]); (try simp only [List.set_cons_succ]); (try simp only [List.set_cons_zero])
            refine wpLexP_pure ?_ ?_ ?_ ?_
            focus exact wanted_none rfl
            rotate_left
            focus (intro wq hq; go_simp; first | done | with_reducible rfl)
            (simp only [Act.put, List.setIfInBounds_toArray]); (try simp only [List.set_cons_succ]); (try simp only [List.set_cons_zero])
            refine wpLexP_nil ?_
            go_wp2_with fail
            go_ret
            refine ⟨ret_bool ?_, (Since.first w _).trans (by repeat (first | with_reducible assumption | refine Since.alloc ?_ _ | refine Since.drew ?_ | refine Since.next ?_ (by with_reducible assumption)))⟩
            go_light
            simp [netsB, uni0, uni1, q0, q1, q2]
          case true =>
            try simp only [q2]
            refine wpLexP_pure ?_ ?_ ?_ ?_
            focus exact wanted_yes rfl rfl
            rotate_left
            focus (intro wq hq; go_simp; first | done | with_reducible rfl)
            (simp only [Act.put, List.setIfInBounds_toArray]); (try simp only [List.set_cons_succ]); (try simp only [List.set_cons_zero])
            refine wpLexP_pure ?_ ?_ ?_ ?_
            focus exact wanted_none rfl
            rotate_left
            focus (intro wq hq; go_simp; first | done | with_reducible rfl)
            (simp only [Act.put, List.setIfInBounds_toArray]); (try simp only [List.set_cons_succ]); (try simp only [List.set_cons_zero])
            refine wpLexP_pure ?_ ?_ ?_ ?_
            focus exact wanted_none rfl
            rotate_left
            focus (intro wq hq; go_simp; first | done | with_reducible rfl)
            (simp only [Act.put, List.setIfInBounds_toArray]); (try simp only [List.set_cons_succ]); (try simp only [List.set_cons_zero])
            refine wpLexP_pure ?_ ?_ ?_ ?_
            focus exact wanted_yes rfl rfl
            rotate_left
            focus (intro wq hq; go_simp; first | done | with_reducible rfl)
            (simp only [Act.put, List.setIfInBounds_toArray]); (try simp only [List.set_cons_succ]); (try simp only [List.set_cons_zero])
            refine wpLexP_pure ?_ ?_ ?_ ?_
            focus exact wanted_yes rfl rfl
            rotate_left
            focus (intro wq hq; go_simp; first | done | with_reducible rfl)
            (simp only [Act.put, List.setIfInBounds_toArray]); (try simp only [List.set_cons_succ]); (try simp only [List.set_cons_zero])
            refine wpLexP_pure ?_ ?_ ?_ ?_
            focus exact wanted_yes rfl rfl
            rotate_left
            focus (intro wq hq; go_simp; first | done | with_reducible rfl)
            (simp only [Act.put, List.setIfInBounds_toArray]); (try simp only [List.set_cons_succ]); (try simp only [List.set_cons_zero])
            refine wpLexP_pure ?_ ?_ ?_ ?_
            focus exact wanted_yes rfl rfl
            rotate_left
            focus (intro wq hq; go_simp; first | done | with_reducible rfl)
            (simp only [Act.put, List.setIfInBounds_toArray]); (try simp only [List.set_cons_succ]); (try simp only [List.set_cons_zero])
            refine wpLexP_pure ?_ ?_ ?_ ?_
            focus exact wanted_yes rfl rfl
            rotate_left
            focus (intro wq hq; go_simp; first | done | with_reducible rfl)
            (simp only [Act.put, List.setIfInBounds_toArray]); (try simp only [List.set_cons_succ]); (try simp only [List.set_cons_zero])
            refine wpLexP_pure ?_ ?_ ?_ ?_
            focus exact wanted_yes rfl rfl
            rotate_left
            focus (intro wq hq; go_simp; first | done | with_reducible rfl)
            (simp only [Act.put, List.setIfInBounds_toArray]); (try simp only [List.set_cons_succ]); (try simp only [List.set_cons_zero])
            refine wpLexP_pure ?_ ?_ ?_ ?_
            focus exact wanted_yes rfl rfl
            rotate_left
            focus (intro wq hq; go_simp; first | done | with_reducible rfl)
            (simp only [Act.put, List.setIfInBounds_toArray]); (try simp only [List.set_cons_succ]); (try simp only [List.set_cons_zero])
            refine wpLexP_pure ?_ ?_ ?_ ?_
            focus exact wanted_yes rfl rfl
            rotate_left
            focus (intro wq hq; go_simp; first | done | with_reducible rfl)
            (simp only [Act.put, List.setIfInBounds_toArray]); (try simp only [List.set_cons_succ]); (try simp only [List.set_cons_zero])
            refine wpLexP_pure ?_ ?_ ?_ ?_
            focus exact wanted_yes rfl rfl
            rotate_left
            focus (intro wq hq; go_simp; first | done | with_reducible rfl)
            (simp only [Act.put, List.setIfInBounds_toArray]); (try simp only [List.set_cons_succ]); (try simp only [List.set_cons_zero])
            refine wpLexP_pure ?_ ?_ ?_ ?_
            focus exact wanted_yes rfl rfl
            rotate_left
            focus (intro wq hq; go_simp; first | done | with_reducible rfl)
            (simp only [Act.put, List.setIfInBounds_toArray]); (try simp only [List.set_cons_succ]); (try simp only [List.set_cons_zero])
            refine wpLexP_pure ?_ ?_ ?_ ?_
            focus exact wanted_yes rfl rfl
            rotate_left
            focus (intro wq hq; go_simp; first | done | with_reducible rfl)
            (simp only [Act.put, List.setIfInBounds_toArray]); (try simp only [List.set_cons_succ]); (try simp only [List.set_cons_zero])
            refine wpLexP_pure ?_ ?_ ?_ ?_
            focus exact wanted_yes rfl rfl
            rotate_left
            focus (intro wq hq; go_simp; first | done | with_reducible rfl)
            (simp only [Act.put, List.setIfInBounds_toArray]); (try simp only [List.set_cons_succ]); (try simp only [List.set_cons_zero])
            refine wpLexP_pure ?_ ?_ ?_ ?_
            focus exact wanted_yes rfl rfl
            rotate_left
            focus (intro wq hq; go_simp; first | done | with_reducible rfl)
            (simp only [Act.put, List.setIfInBounds_toArray]); (try simp only [List.set_cons_succ]); (try simp only [List.set_cons_zero])
            refine wpLexP_solo ?_ (fun K hK => ?_)
            focus exact wanted_yes rfl rfl
            go_simp
            go_at_call 21
            refine (in_any _ _ _ _ (by assumption) (by assumption) (by assumption) (by assumption)).mono ?_
            rintro e w' ⟨rfl, rfl⟩
            refine hK.out _ _ ?_ ?_
            focus (repeat (first | with_reducible assumption | refine Since.alloc ?_ _ | refine Since.drew ?_ | refine Since.next ?_ (by with_reducible assumption)))
            clear hK K
            try (simp only [Act.put, List.setIfInBounds_toArray]); (try simp only [List.set_cons_succ]); (try simp only [List.set_cons_zero])
            cases q3 : inB (z 12) (z 13) (z 15)
            case false =>
              try simp only [q3]
              refine wpLexP_pure ?_ ?_ ?_ ?_
              focus exact wanted_none rfl
              rotate_left
              focus (intro wq hq; go_simp; first | done | with_reducible rfl)
              (simp only [Act.put, List.setIfInBounds_toArray]); (try simp only [List.set_cons_succ]); (try simp only [List.set_cons_zero])
              refine wpLexP_nil ?_
              go_wp2_with fail
              go_roundw
              case rel => exact ⟨2, by omega, rfl, by repeat (first | with_reducible assumption | refine Since.alloc ?_ _ | refine Since.drew ?_ | refine Since.next ?_ (by with_reducible assumption)), fun _ => H0.out (by omega), fun _ => by simp [passB, uni1, q0, q1, q2, q3]⟩
              case measure => simp [intOf]
            case true =>
              try simp only [q3]
              refine wpLexP_pure ?_ ?_ ?_ ?_
              focus exact wanted_none rfl
              rotate_left
              focus (intro wq hq; go_simp; first | done | with_reducible rfl)
              (simp only [Act.put, List.setIfInBounds_toArray]); (try simp only [List.set_cons_succ]); (try simp only [List.set_cons_zero])
              refine wpLexP_nil ?_
              go_wp2_with fail
              go_ret
              refine ⟨ret_bool ?_, (Since.first w _).trans (by repeat (first | with_reducible assumption | refine Since.alloc ?_ _ | refine Since.drew ?_ | refine Since.next ?_ (by with_reducible assumption)))⟩
              go_light
              simp [netsB, uni0, uni1, q0, q1, q2, q3]
    · -- behind both
      have d0 := D0 wr hb
      have d1 := D1 wr hb
      have d2 := D2 wr hb
      have d3 := D3 wr hb
      have d4 := D4 wr hb
      have d5 := D5 wr hb
      have d6 := D6 wr hb
      have d7 := D7 wr hb
      have d8 := D8 wr hb
      have d9 := D9 wr hb
      have d10 := D10 wr hb
      have d11 := D11 wr hb
      have d12 := D12 wr hb
      have d13 := D13 wr hb
      have d14 := D14 wr hb
      have d15 := D15 wr hb
      have d16 := D16 wr hb
      clear D0 D1 D2 D3 D4 D5 D6 D7 D8 D9 D10 D11 D12 D13 D14 D15 D16
      have h0 := H0.out (by omega)
      have h1 := H1.out (by omega)
      have HP : Hid (passB z 0 = true ∧ passB z 1 = true) := ⟨h0, h1⟩
      clear h0 h1
      go_wp2_with (first | (go_at_call 23; refine (host_any _ _ _ _ (by assumption) (by assumption) (by assumption) (by assumption)).mono ?_; rintro e w' ⟨rfl, rfl⟩))
      all_goals
        go_ret
        refine ⟨ret_bool ?_, (Since.first w _).trans hb⟩
        have hp := HP.out
        go_light
        clear HP
        simp only [passB, if_true, Nat.one_ne_zero, if_false, Bool.and_eq_true, Bool.not_eq_true'] at hp
        simp only [netsB, macsEq]
        simp_all
end Go.Proofs.Ytejkambjfcpagaa
