/-
  The law RouteAlways of layer 25: its walk. Written by program (gen_always.py). Conditions: the configuration's cells are numbers of their kinds; the address is a u32.
-/
import Derived.Test.YtejkambjfcpagaaAlwaysPlain
namespace Go.Proofs.Ytejkambjfcpagaa
open Go.RowKit

attribute [local go_sem ↓] config_veil
theorem always8_ok : lexOk ((regionOf 8 (Try.f4.body.getD .skip)).getD #[]) [false, false, false, false, false, false, false, false, false, false, false, true, false, false, false, false, false, false, false, false, false, false, true, false, false, false, false] = true := by kernel_rfl

set_option maxRecDepth 100000 in
set_option maxHeartbeats 16000000 in
theorem always_any (cs : Array Value) (z : Nat → Int) (a : Int) (w : World) (hz : IsConf cs z) (a0 : 0 ≤ a) (a1 : a ≤ 4294967295) :
    Calls Try.prog 4 #[.agg cs, .int .u32 a] w fun e w' => e = .returned (.bool true) ∧ Below w.heap.size w w' := by
  obtain ⟨w12, v12⟩ := wf_u32 (hz.wf 12 _ rfl)
  obtain ⟨w13, v13⟩ := wf_u32 (hz.wf 13 _ rfl)
  obtain ⟨w14, _⟩ := wf_i64 (hz.wf 14 _ rfl)
  obtain ⟨w15, _⟩ := wf_i64 (hz.wf 15 _ rfl)
  have D12 := fun (w' : World) (h : Since (w.alloc (.cells cs 33)) w') => conf_cell hz h.below 12 _ rfl
  have D13 := fun (w' : World) (h : Since (w.alloc (.cells cs 33)) w') => conf_cell hz h.below 13 _ rfl
  have D14 := fun (w' : World) (h : Since (w.alloc (.cells cs 33)) w') => conf_cell hz h.below 14 _ rfl
  have D15 := fun (w' : World) (h : Since (w.alloc (.cells cs 33)) w') => conf_cell hz h.below 15 _ rfl
  have e1 : IntKind.i64.wrap 1 = 1 := by decide
  have e2 : IntKind.i64.wrap 2 = 2 := by decide
  have Hld := Lib.hid (fun (w' : World) (h : Since (w.alloc (.cells cs 33)) w') => conf_load cs w w' hz.size h)
  have Hright := Lib.hid (fun w => rright_any cs z w hz)
  have Hof := Lib.hid (fun w => of_any cs z a w hz a0 a1)
  have Hor : Hid (rightR z = true → specB a = false → ∃ n x e, ofV a z = placeV n x e ∧ (e = 2 ∧ (nf z a 0 || nf z a 1) = true ∨ e = 0 ∧ (nf z a 0 || nf z a 1) = false)) := Lib.hid of_right
  clear hz
  have hl0 := Hld.out _ (Since.refl _)
  have hs0 : Since (w.alloc (.cells cs 33)) (w.alloc (.cells cs 33)) := Since.refl _
  go_enter Try.func4, Try.ntmps4
  cases hr : rightR z
  · go_wp2_with (first
      | ((go_at_call 6; refine (Hright.out _).mono ?_; rintro e w1 ⟨rfl, hb1⟩); (simp only [hr]))
      | (go_at_call 7; refine (lives_any _).mono ?_; rintro e w2 ⟨rfl, hb2⟩))
    go_ret
    exact ⟨rfl, (Since.first w _).trans ((Since.next (Since.refl _) hb1).next hb2)⟩
  cases hsp : specB a
  rotate_left
  · go_wp2_with (first
      | ((go_at_call 6; refine (Hright.out _).mono ?_; rintro e w1 ⟨rfl, hb1⟩); (simp only [hr]))
      | (go_at_call 8; refine (rspecial_any _ _ a0 a1).mono ?_; rintro e w' ⟨rfl, rfl⟩; simp only [hsp])
      | (go_at_call 7; refine (lives_any _).mono ?_; rintro e w2 ⟨rfl, hb2⟩))
    go_ret
    exact ⟨rfl, (Since.first w _).trans ((Since.next (Since.refl _) hb1).next hb2)⟩
  obtain ⟨n, x, e, hof, he⟩ := Hor.out hr hsp
  have He := Lib.hid he
  have Hn : Hid ((nf z a 0 = (inB a (z 12) (z 14) && !hostB a (z 12) (z 14))) ∧ (nf z a 1 = (inB a (z 13) (z 15) && !hostB a (z 13) (z 15)))) := ⟨rfl, rfl⟩
  clear he
  go_upto_region 3 with (first
      | ((go_at_call 6; refine (Hright.out _).mono ?_; rintro e w1 ⟨rfl, hb1⟩); (simp only [hr]))
      | (go_at_call 8; refine (rspecial_any _ _ a0 a1).mono ?_; rintro e w' ⟨rfl, rfl⟩; simp only [hsp]))
  have hs1 : Since (w.alloc (.cells cs 33)) w1 := Since.next (Since.refl _) hb1
  have hl1 := Hld.out _ hs1
  go_wp2_with (first
      | (go_at_call 9; refine (Hof.out _).mono ?_; rintro e w2 ⟨rfl, hb2⟩; simp only [hof, placeV]))
  have hs2 : Since (w.alloc (.cells cs 33)) (w2.alloc (.cells #[.int .i64 n, .int .u32 x] 38)) := (hs1.next hb2).alloc _
  go_loopw [7, 8] (fun b i wr => ∃ (k : Nat) (bb : Bool), i = .int .i64 k ∧ b = .bool bb ∧ Since (w.alloc (.cells cs 33)) wr ∧ Hid (k = 0 ∧ bb = false ∨ k = 1 ∧ bb = nf z a 0 ∨ k = 2 ∧ bb = (nf z a 0 || nf z a 1))) (fun _ i _ => 2 - (intOf i).toNat)
  case atStart => exact ⟨0, false, rfl, rfl, hs2, .inl ⟨rfl, rfl⟩⟩
  case round =>
    obtain ⟨k, bb, rfl, rfl, hb, H0⟩ := hrel
    have h0 := H0.out
    clear H0
    rcases h0 with ⟨rfl, rfl⟩ | ⟨rfl, rfl⟩ | ⟨rfl, rfl⟩
    · -- card 0
      go_wp2_with fail
      refine wp_region_lexp (Since (w.alloc (.cells cs 33))) [false, false, false, false, false, false, false, false, false, false, false, true, false, false, false, false, false, false, false, false, false, false, true, false, false, false, false] (by kernel_rfl) always8_ok (by intro c a d v w h; cases d <;> exact h) hb.drew ?_
      refine wpLexP_pure ?_ ?_ ?_ ?_
      focus exact wanted_none rfl
      rotate_left
      focus (intro wq hq; go_simp; first | done | with_reducible rfl)
      (simp only [Act.put, List.setIfInBounds_toArray]); (try simp only [List.set_cons_succ]); (try simp only [List.set_cons_zero])
      refine wpLexP_pure ?_ ?_ ?_ ?_
      focus exact wanted_none rfl
      rotate_left
      focus (intro wq hq; go_simp; first | done | with_reducible rfl)
      (simp only [Act.put, List.setIfInBounds_toArray]); (try simp only [List.set_cons_succ]); (try simp only [List.set_cons_zero])
      refine wpLexP_pure ?_ ?_ ?_ ?_
      focus exact wanted_yes rfl rfl
      rotate_left
      focus (intro wq hq; go_simp; first | done | with_reducible rfl)
      (simp only [Act.put, List.setIfInBounds_toArray]); (try simp only [List.set_cons_succ]); (try simp only [List.set_cons_zero])
      refine wpLexP_pure ?_ ?_ ?_ ?_
      focus exact wanted_yes rfl rfl
      rotate_left
      focus (intro wq hq; go_simp; first | done | with_reducible rfl)
      (simp only [Act.put, List.setIfInBounds_toArray]); (try simp only [List.set_cons_succ]); (try simp only [List.set_cons_zero])
      refine wpLexP_pure ?_ ?_ ?_ ?_
      focus exact wanted_yes rfl rfl
      rotate_left
      focus (intro wq hq; go_simp; first | done | with_reducible rfl)
      (simp only [Act.put, List.setIfInBounds_toArray]); (try simp only [List.set_cons_succ]); (try simp only [List.set_cons_zero])
      refine wpLexP_pure ?_ ?_ ?_ ?_
      focus exact wanted_yes rfl rfl
      rotate_left
      focus (intro wq hq; go_simp; first | done | with_reducible rfl)
      (simp only [Act.put, List.setIfInBounds_toArray]); (try simp only [List.set_cons_succ]); (try simp only [List.set_cons_zero])
      refine wpLexP_pure ?_ ?_ ?_ ?_
      focus exact wanted_yes rfl rfl
      rotate_left
      focus (intro wq hq; go_simp; first | done | with_reducible rfl)
      (simp only [Act.put, List.setIfInBounds_toArray]); (try simp only [List.set_cons_succ]); (try simp only [List.set_cons_zero])
      refine wpLexP_pure ?_ ?_ ?_ ?_
      focus exact wanted_yes rfl rfl
      rotate_left
      focus (intro wq hq; go_simp; first | done | with_reducible rfl)
      (simp only [Act.put, List.setIfInBounds_toArray]); (try simp only [List.set_cons_succ]); (try simp only [List.set_cons_zero])
      refine wpLexP_pure ?_ ?_ ?_ ?_
      focus exact wanted_yes rfl rfl
      rotate_left
      focus (intro wq hq; go_simp; first | done | with_reducible rfl)
      (simp only [Act.put, List.setIfInBounds_toArray]); (try simp only [List.set_cons_succ]); (try simp only [List.set_cons_zero])
      refine wpLexP_pure ?_ ?_ ?_ ?_
      focus exact wanted_yes rfl rfl
      rotate_left
      focus (intro wq hq; go_simp; first | done | with_reducible rfl)
      (simp only [Act.put, List.setIfInBounds_toArray]); (try simp only [List.set_cons_succ]); (try simp only [List.set_cons_zero])
      refine wpLexP_pure ?_ ?_ ?_ ?_
      focus exact wanted_yes rfl rfl
      rotate_left
      focus (intro wq hq; go_simp; first | done | with_reducible rfl)
      (simp only [Act.put, List.setIfInBounds_toArray]); (try simp only [List.set_cons_succ]); (try simp only [List.set_cons_zero])
      refine wpLexP_solo ?_ (fun K hK => ?_)
      focus exact wanted_yes rfl rfl
      go_simp
      go_at_call 10
      refine (rin_any _ _ _ _ (by assumption) (by assumption) (by assumption) (by assumption)).mono ?_
      rintro e w' ⟨rfl, rfl⟩
      refine hK.out _ _ ?_ ?_
      focus (repeat (first | with_reducible assumption | refine Since.alloc ?_ _ | refine Since.drew ?_ | refine Since.next ?_ (by with_reducible assumption)))
      clear hK K
      try (simp only [Act.put, List.setIfInBounds_toArray]); (try simp only [List.set_cons_succ]); (try simp only [List.set_cons_zero])
      cases q0 : inB a (z 12) (z 14)
      case false =>
        try simp only [q0]
        refine wpLexP_pure ?_ ?_ ?_ ?_
        focus exact wanted_yes rfl rfl
        rotate_left
        focus (intro wq hq; go_simp; first | done | with_reducible rfl)
        (simp only [Act.put, List.setIfInBounds_toArray]); (try simp only [List.set_cons_succ]); (try simp only [List.set_cons_zero])
        refine wpLexP_skip ?_ ?_
        focus exact unwanted rfl rfl rfl
        (simp only [Act.put, List.setIfInBounds_toArray]); (try simp only [List.set_cons_succ]); (try simp only [List.set_cons_zero])
        refine wpLexP_skip ?_ ?_
        focus exact unwanted rfl rfl rfl
        (simp only [Act.put, List.setIfInBounds_toArray]); (try simp only [List.set_cons_succ]); (try simp only [List.set_cons_zero])
        refine wpLexP_skip ?_ ?_
        focus exact unwanted rfl rfl rfl
        (simp only [Act.put, List.setIfInBounds_toArray]); (try simp only [List.set_cons_succ]); (try simp only [List.set_cons_zero])
        refine wpLexP_skip ?_ ?_
        focus exact unwanted rfl rfl rfl
        (simp only [Act.put, List.setIfInBounds_toArray]); (try simp only [List.set_cons_succ]); (try simp only [List.set_cons_zero])
        refine wpLexP_skip ?_ ?_
        focus exact unwanted rfl rfl rfl
        (simp only [Act.put, List.setIfInBounds_toArray]); (try simp only [List.set_cons_succ]); (try simp only [List.set_cons_zero])
        refine wpLexP_skip ?_ ?_
        focus exact unwanted rfl rfl rfl
        (simp only [Act.put, List.setIfInBounds_toArray]); (try simp only [List.set_cons_succ]); (try simp only [List.set_cons_zero])
        refine wpLexP_skip ?_ ?_
        focus exact unwanted rfl rfl rfl
        (simp only [Act.put, List.setIfInBounds_toArray]); (try simp only [List.set_cons_succ]); (try simp only [List.set_cons_zero])
        refine wpLexP_skip ?_ ?_
        focus exact unwanted rfl rfl rfl
        (simp only [Act.put, List.setIfInBounds_toArray]); (try simp only [List.set_cons_succ]); (try simp only [List.set_cons_zero])
        refine wpLexP_skip ?_ ?_
        focus exact unwanted rfl rfl rfl
        (simp only [Act.put, List.setIfInBounds_toArray]); (try simp only [List.set_cons_succ]); (try simp only [List.set_cons_zero])
        refine wpLexP_skip ?_ ?_
        focus exact unwanted rfl rfl rfl
        (simp only [Act.put, List.setIfInBounds_toArray]); (try simp only [List.set_cons_succ]); (try simp only [List.set_cons_zero])
        refine wpLexP_skip ?_ ?_
        focus exact unwanted rfl rfl rfl
        (simp only [Act.put, List.setIfInBounds_toArray]); (try simp only [List.set_cons_succ]); (try simp only [List.set_cons_zero])
        refine wpLexP_pure ?_ ?_ ?_ ?_
        focus exact wanted_yes rfl rfl
        rotate_left
        focus (intro wq hq; go_simp; first | done | with_reducible rfl)
        (simp only [Act.put, List.setIfInBounds_toArray]); (try simp only [List.set_cons_succ]); (try simp only [List.set_cons_zero])
        refine wpLexP_pure ?_ ?_ ?_ ?_
        focus exact wanted_none rfl
        rotate_left
        focus (intro wq hq; go_simp; first | done | with_reducible rfl)
        (simp only [Act.put, List.setIfInBounds_toArray]); (try simp only [List.set_cons_succ]); (try simp only [List.set_cons_zero])
        refine wpLexP_pure ?_ ?_ ?_ ?_
        focus exact wanted_none rfl
        rotate_left
        focus (intro wq hq; go_simp; first | done | with_reducible rfl)
        (simp only [Act.put, List.setIfInBounds_toArray]); (try simp only [List.set_cons_succ]); (try simp only [List.set_cons_zero])
        refine wpLexP_nil ?_
        go_wp2_with fail
        go_roundw
        case rel => exact ⟨1, _, rfl, rfl, by repeat (first | with_reducible assumption | refine Since.alloc ?_ _ | refine Since.drew ?_ | refine Since.next ?_ (by with_reducible assumption)), .inr (.inl ⟨rfl, by rw [Hn.out.1]; simp [q0]⟩)⟩
        case measure => simp [intOf]
      case true =>
        try simp only [q0]
        refine wpLexP_pure ?_ ?_ ?_ ?_
        focus exact wanted_yes rfl rfl
        rotate_left
        focus (intro wq hq; go_simp; first | done | with_reducible rfl)
        (simp only [Act.put, List.setIfInBounds_toArray]); (try simp only [List.set_cons_succ]); (try simp only [List.set_cons_zero])
        refine wpLexP_pure ?_ ?_ ?_ ?_
        focus exact wanted_yes rfl rfl
        rotate_left
        focus (intro wq hq; go_simp; first | done | with_reducible rfl)
        (simp only [Act.put, List.setIfInBounds_toArray]); (try simp only [List.set_cons_succ]); (try simp only [List.set_cons_zero])
        refine wpLexP_pure ?_ ?_ ?_ ?_
        focus exact wanted_yes rfl rfl
        rotate_left
        focus (intro wq hq; go_simp; first | done | with_reducible rfl)
        (simp only [Act.put, List.setIfInBounds_toArray]); (try simp only [List.set_cons_succ]); (try simp only [List.set_cons_zero])
        refine wpLexP_pure ?_ ?_ ?_ ?_
        focus exact wanted_yes rfl rfl
        rotate_left
        focus (intro wq hq; go_simp; first | done | with_reducible rfl)
        (simp only [Act.put, List.setIfInBounds_toArray]); (try simp only [List.set_cons_succ]); (try simp only [List.set_cons_zero])
        refine wpLexP_pure ?_ ?_ ?_ ?_
        focus exact wanted_yes rfl rfl
        rotate_left
        focus (intro wq hq; go_simp; first | done | with_reducible rfl)
        (simp only [Act.put, List.setIfInBounds_toArray]); (try simp only [List.set_cons_succ]); (try simp only [List.set_cons_zero])
        refine wpLexP_pure ?_ ?_ ?_ ?_
        focus exact wanted_yes rfl rfl
        rotate_left
        focus (intro wq hq; go_simp; first | done | with_reducible rfl)
        (simp only [Act.put, List.setIfInBounds_toArray]); (try simp only [List.set_cons_succ]); (try simp only [List.set_cons_zero])
        refine wpLexP_pure ?_ ?_ ?_ ?_
        focus exact wanted_yes rfl rfl
        rotate_left
        focus (intro wq hq; go_simp; first | done | with_reducible rfl)
        (simp only [Act.put, List.setIfInBounds_toArray]); (try simp only [List.set_cons_succ]); (try simp only [List.set_cons_zero])
        refine wpLexP_pure ?_ ?_ ?_ ?_
        focus exact wanted_yes rfl rfl
        rotate_left
        focus (intro wq hq; go_simp; first | done | with_reducible rfl)
        (simp only [Act.put, List.setIfInBounds_toArray]); (try simp only [List.set_cons_succ]); (try simp only [List.set_cons_zero])
        refine wpLexP_pure ?_ ?_ ?_ ?_
        focus exact wanted_yes rfl rfl
        rotate_left
        focus (intro wq hq; go_simp; first | done | with_reducible rfl)
        (simp only [Act.put, List.setIfInBounds_toArray]); (try simp only [List.set_cons_succ]); (try simp only [List.set_cons_zero])
        refine wpLexP_pure ?_ ?_ ?_ ?_
        focus exact wanted_yes rfl rfl
        rotate_left
        focus (intro wq hq; go_simp; first | done | with_reducible rfl)
        (simp only [Act.put, List.setIfInBounds_toArray]); (try simp only [List.set_cons_succ]); (try simp only [List.set_cons_zero])
        refine wpLexP_solo ?_ (fun K hK => ?_)
        focus exact wanted_yes rfl rfl
        go_simp
        go_at_call 11
        refine (rhost_any _ _ _ _ (by assumption) (by assumption) (by assumption) (by assumption) (by assumption)).mono ?_
        rintro e w' ⟨rfl, rfl⟩
        refine hK.out _ _ ?_ ?_
        focus (repeat (first | with_reducible assumption | refine Since.alloc ?_ _ | refine Since.drew ?_ | refine Since.next ?_ (by with_reducible assumption)))
        clear hK K
        try (simp only [Act.put, List.setIfInBounds_toArray]); (try simp only [List.set_cons_succ]); (try simp only [List.set_cons_zero])
        cases q1 : hostB a (z 12) (z 14)
        case false =>
          try simp only [q1]
          refine wpLexP_pure ?_ ?_ ?_ ?_
          focus exact wanted_yes rfl rfl
          rotate_left
          focus (intro wq hq; go_simp; first | done | with_reducible rfl)
          (simp only [Act.put, List.setIfInBounds_toArray]); (try simp only [List.set_cons_succ]); (try simp only [List.set_cons_zero])
          refine wpLexP_pure ?_ ?_ ?_ ?_
          focus exact wanted_yes rfl rfl
          rotate_left
          focus (intro wq hq; go_simp; first | done | with_reducible rfl)
          (simp only [Act.put, List.setIfInBounds_toArray]); (try simp only [List.set_cons_succ]); (try simp only [List.set_cons_zero])
          refine wpLexP_pure ?_ ?_ ?_ ?_
          focus exact wanted_none rfl
          rotate_left
          focus (intro wq hq; go_simp; first | done | with_reducible rfl)
          (simp only [Act.put, List.setIfInBounds_toArray]); (try simp only [List.set_cons_succ]); (try simp only [List.set_cons_zero])
          refine wpLexP_pure ?_ ?_ ?_ ?_
          focus exact wanted_none rfl
          rotate_left
          focus (intro wq hq; go_simp; first | done | with_reducible rfl)
          (simp only [Act.put, List.setIfInBounds_toArray]); (try simp only [List.set_cons_succ]); (try simp only [List.set_cons_zero])
          refine wpLexP_nil ?_
          go_wp2_with fail
          go_roundw
          case rel => exact ⟨1, _, rfl, rfl, by repeat (first | with_reducible assumption | refine Since.alloc ?_ _ | refine Since.drew ?_ | refine Since.next ?_ (by with_reducible assumption)), .inr (.inl ⟨rfl, by rw [Hn.out.1]; simp [q0, q1]⟩)⟩
          case measure => simp [intOf]
        case true =>
          try simp only [q1]
          refine wpLexP_pure ?_ ?_ ?_ ?_
          focus exact wanted_yes rfl rfl
          rotate_left
          focus (intro wq hq; go_simp; first | done | with_reducible rfl)
          (simp only [Act.put, List.setIfInBounds_toArray]); (try simp only [List.set_cons_succ]); (try simp only [List.set_cons_zero])
          refine wpLexP_pure ?_ ?_ ?_ ?_
          focus exact wanted_yes rfl rfl
          rotate_left
          focus (intro wq hq; go_simp; first | done | with_reducible rfl)
          (simp only [Act.put, List.setIfInBounds_toArray]); (try simp only [List.set_cons_succ]); (try simp only [List.set_cons_zero])
          refine wpLexP_pure ?_ ?_ ?_ ?_
          focus exact wanted_none rfl
          rotate_left
          focus (intro wq hq; go_simp; first | done | with_reducible rfl)
          (simp only [Act.put, List.setIfInBounds_toArray]); (try simp only [List.set_cons_succ]); (try simp only [List.set_cons_zero])
          refine wpLexP_pure ?_ ?_ ?_ ?_
          focus exact wanted_none rfl
          rotate_left
          focus (intro wq hq; go_simp; first | done | with_reducible rfl)
          (simp only [Act.put, List.setIfInBounds_toArray]); (try simp only [List.set_cons_succ]); (try simp only [List.set_cons_zero])
          refine wpLexP_nil ?_
          go_wp2_with fail
          go_roundw
          case rel => exact ⟨1, _, rfl, rfl, by repeat (first | with_reducible assumption | refine Since.alloc ?_ _ | refine Since.drew ?_ | refine Since.next ?_ (by with_reducible assumption)), .inr (.inl ⟨rfl, by rw [Hn.out.1]; simp [q0, q1]⟩)⟩
          case measure => simp [intOf]
    · -- card 1
      cases hq : nf z a 0
      · go_wp2_with fail
        refine wp_region_lexp (Since (w.alloc (.cells cs 33))) [false, false, false, false, false, false, false, false, false, false, false, true, false, false, false, false, false, false, false, false, false, false, true, false, false, false, false] (by kernel_rfl) always8_ok (by intro c a d v w h; cases d <;> exact h) hb.drew ?_
        refine wpLexP_pure ?_ ?_ ?_ ?_
        focus exact wanted_none rfl
        rotate_left
        focus (intro wq hq; go_simp; first | done | with_reducible rfl)
        (simp only [Act.put, List.setIfInBounds_toArray]); (try simp only [List.set_cons_succ]); (try simp only [List.set_cons_zero])
        refine wpLexP_pure ?_ ?_ ?_ ?_
        focus exact wanted_none rfl
        rotate_left
        focus (intro wq hq; go_simp; first | done | with_reducible rfl)
        (simp only [Act.put, List.setIfInBounds_toArray]); (try simp only [List.set_cons_succ]); (try simp only [List.set_cons_zero])
        refine wpLexP_pure ?_ ?_ ?_ ?_
        focus exact wanted_yes rfl rfl
        rotate_left
        focus (intro wq hq; go_simp; first | done | with_reducible rfl)
        (simp only [Act.put, List.setIfInBounds_toArray]); (try simp only [List.set_cons_succ]); (try simp only [List.set_cons_zero])
        refine wpLexP_pure ?_ ?_ ?_ ?_
        focus exact wanted_yes rfl rfl
        rotate_left
        focus (intro wq hq; go_simp; first | done | with_reducible rfl)
        (simp only [Act.put, List.setIfInBounds_toArray]); (try simp only [List.set_cons_succ]); (try simp only [List.set_cons_zero])
        refine wpLexP_pure ?_ ?_ ?_ ?_
        focus exact wanted_yes rfl rfl
        rotate_left
        focus (intro wq hq; go_simp; first | done | with_reducible rfl)
        (simp only [Act.put, List.setIfInBounds_toArray]); (try simp only [List.set_cons_succ]); (try simp only [List.set_cons_zero])
        refine wpLexP_pure ?_ ?_ ?_ ?_
        focus exact wanted_yes rfl rfl
        rotate_left
        focus (intro wq hq; go_simp; first | done | with_reducible rfl)
        (simp only [Act.put, List.setIfInBounds_toArray]); (try simp only [List.set_cons_succ]); (try simp only [List.set_cons_zero])
        refine wpLexP_pure ?_ ?_ ?_ ?_
        focus exact wanted_yes rfl rfl
        rotate_left
        focus (intro wq hq; go_simp; first | done | with_reducible rfl)
        (simp only [Act.put, List.setIfInBounds_toArray]); (try simp only [List.set_cons_succ]); (try simp only [List.set_cons_zero])
        refine wpLexP_pure ?_ ?_ ?_ ?_
        focus exact wanted_yes rfl rfl
        rotate_left
        focus (intro wq hq; go_simp; first | done | with_reducible rfl)
        (simp only [Act.put, List.setIfInBounds_toArray]); (try simp only [List.set_cons_succ]); (try simp only [List.set_cons_zero])
        refine wpLexP_pure ?_ ?_ ?_ ?_
        focus exact wanted_yes rfl rfl
        rotate_left
        focus (intro wq hq; go_simp; first | done | with_reducible rfl)
        (simp only [Act.put, List.setIfInBounds_toArray]); (try simp only [List.set_cons_succ]); (try simp only [List.set_cons_zero])
        refine wpLexP_pure ?_ ?_ ?_ ?_
        focus exact wanted_yes rfl rfl
        rotate_left
        focus (intro wq hq; go_simp; first | done | with_reducible rfl)
        (simp only [Act.put, List.setIfInBounds_toArray]); (try simp only [List.set_cons_succ]); (try simp only [List.set_cons_zero])
        refine wpLexP_pure ?_ ?_ ?_ ?_
        focus exact wanted_yes rfl rfl
        rotate_left
        focus (intro wq hq; go_simp; first | done | with_reducible rfl)
        (simp only [Act.put, List.setIfInBounds_toArray]); (try simp only [List.set_cons_succ]); (try simp only [List.set_cons_zero])
        refine wpLexP_solo ?_ (fun K hK => ?_)
        focus exact wanted_yes rfl rfl
        go_simp
        go_at_call 10
        refine (rin_any _ _ _ _ (by assumption) (by assumption) (by assumption) (by assumption)).mono ?_
        rintro e w' ⟨rfl, rfl⟩
        refine hK.out _ _ ?_ ?_
        focus (repeat (first | with_reducible assumption | refine Since.alloc ?_ _ | refine Since.drew ?_ | refine Since.next ?_ (by with_reducible assumption)))
        clear hK K
        try (simp only [Act.put, List.setIfInBounds_toArray]); (try simp only [List.set_cons_succ]); (try simp only [List.set_cons_zero])
        cases q0 : inB a (z 13) (z 15)
        case false =>
          try simp only [q0]
          refine wpLexP_pure ?_ ?_ ?_ ?_
          focus exact wanted_yes rfl rfl
          rotate_left
          focus (intro wq hq; go_simp; first | done | with_reducible rfl)
          (simp only [Act.put, List.setIfInBounds_toArray]); (try simp only [List.set_cons_succ]); (try simp only [List.set_cons_zero])
          refine wpLexP_skip ?_ ?_
          focus exact unwanted rfl rfl rfl
          (simp only [Act.put, List.setIfInBounds_toArray]); (try simp only [List.set_cons_succ]); (try simp only [List.set_cons_zero])
          refine wpLexP_skip ?_ ?_
          focus exact unwanted rfl rfl rfl
          (simp only [Act.put, List.setIfInBounds_toArray]); (try simp only [List.set_cons_succ]); (try simp only [List.set_cons_zero])
          refine wpLexP_skip ?_ ?_
          focus exact unwanted rfl rfl rfl
          (simp only [Act.put, List.setIfInBounds_toArray]); (try simp only [List.set_cons_succ]); (try simp only [List.set_cons_zero])
          refine wpLexP_skip ?_ ?_
          focus exact unwanted rfl rfl rfl
          (simp only [Act.put, List.setIfInBounds_toArray]); (try simp only [List.set_cons_succ]); (try simp only [List.set_cons_zero])
          refine wpLexP_skip ?_ ?_
          focus exact unwanted rfl rfl rfl
          (simp only [Act.put, List.setIfInBounds_toArray]); (try simp only [List.set_cons_succ]); (try simp only [List.set_cons_zero])
          refine wpLexP_skip ?_ ?_
          focus exact unwanted rfl rfl rfl
          (simp only [Act.put, List.setIfInBounds_toArray]); (try simp only [List.set_cons_succ]); (try simp only [List.set_cons_zero])
          refine wpLexP_skip ?_ ?_
          focus exact unwanted rfl rfl rfl
          (simp only [Act.put, List.setIfInBounds_toArray]); (try simp only [List.set_cons_succ]); (try simp only [List.set_cons_zero])
          refine wpLexP_skip ?_ ?_
          focus exact unwanted rfl rfl rfl
          (simp only [Act.put, List.setIfInBounds_toArray]); (try simp only [List.set_cons_succ]); (try simp only [List.set_cons_zero])
          refine wpLexP_skip ?_ ?_
          focus exact unwanted rfl rfl rfl
          (simp only [Act.put, List.setIfInBounds_toArray]); (try simp only [List.set_cons_succ]); (try simp only [List.set_cons_zero])
          refine wpLexP_skip ?_ ?_
          focus exact unwanted rfl rfl rfl
          (simp only [Act.put, List.setIfInBounds_toArray]); (try simp only [List.set_cons_succ]); (try simp only [List.set_cons_zero])
          refine wpLexP_skip ?_ ?_
          focus exact unwanted rfl rfl rfl
          (simp only [Act.put, List.setIfInBounds_toArray]); (try simp only [List.set_cons_succ]); (try simp only [List.set_cons_zero])
          refine wpLexP_pure ?_ ?_ ?_ ?_
          focus exact wanted_yes rfl rfl
          rotate_left
          focus (intro wq hq; go_simp; first | done | with_reducible rfl)
          (simp only [Act.put, List.setIfInBounds_toArray]); (try simp only [List.set_cons_succ]); (try simp only [List.set_cons_zero])
          refine wpLexP_pure ?_ ?_ ?_ ?_
          focus exact wanted_none rfl
          rotate_left
          focus (intro wq hq; go_simp; first | done | with_reducible rfl)
          (simp only [Act.put, List.setIfInBounds_toArray]); (try simp only [List.set_cons_succ]); (try simp only [List.set_cons_zero])
          refine wpLexP_pure ?_ ?_ ?_ ?_
          focus exact wanted_none rfl
          rotate_left
          focus (intro wq hq; go_simp; first | done | with_reducible rfl)
          (simp only [Act.put, List.setIfInBounds_toArray]); (try simp only [List.set_cons_succ]); (try simp only [List.set_cons_zero])
          refine wpLexP_nil ?_
          go_wp2_with fail
          go_roundw
          case rel => exact ⟨2, _, rfl, rfl, by repeat (first | with_reducible assumption | refine Since.alloc ?_ _ | refine Since.drew ?_ | refine Since.next ?_ (by with_reducible assumption)), .inr (.inr ⟨rfl, by rw [Hn.out.2]; (try rw [hq]); simp [q0]⟩)⟩
          case measure => simp [intOf]
        case true =>
          try simp only [q0]
          refine wpLexP_pure ?_ ?_ ?_ ?_
          focus exact wanted_yes rfl rfl
          rotate_left
          focus (intro wq hq; go_simp; first | done | with_reducible rfl)
          (simp only [Act.put, List.setIfInBounds_toArray]); (try simp only [List.set_cons_succ]); (try simp only [List.set_cons_zero])
          refine wpLexP_pure ?_ ?_ ?_ ?_
          focus exact wanted_yes rfl rfl
          rotate_left
          focus (intro wq hq; go_simp; first | done | with_reducible rfl)
          (simp only [Act.put, List.setIfInBounds_toArray]); (try simp only [List.set_cons_succ]); (try simp only [List.set_cons_zero])
          refine wpLexP_pure ?_ ?_ ?_ ?_
          focus exact wanted_yes rfl rfl
          rotate_left
          focus (intro wq hq; go_simp; first | done | with_reducible rfl)
          (simp only [Act.put, List.setIfInBounds_toArray]); (try simp only [List.set_cons_succ]); (try simp only [List.set_cons_zero])
          refine wpLexP_pure ?_ ?_ ?_ ?_
          focus exact wanted_yes rfl rfl
          rotate_left
          focus (intro wq hq; go_simp; first | done | with_reducible rfl)
          (simp only [Act.put, List.setIfInBounds_toArray]); (try simp only [List.set_cons_succ]); (try simp only [List.set_cons_zero])
          refine wpLexP_pure ?_ ?_ ?_ ?_
          focus exact wanted_yes rfl rfl
          rotate_left
          focus (intro wq hq; go_simp; first | done | with_reducible rfl)
          (simp only [Act.put, List.setIfInBounds_toArray]); (try simp only [List.set_cons_succ]); (try simp only [List.set_cons_zero])
          refine wpLexP_pure ?_ ?_ ?_ ?_
          focus exact wanted_yes rfl rfl
          rotate_left
          focus (intro wq hq; go_simp; first | done | with_reducible rfl)
          (simp only [Act.put, List.setIfInBounds_toArray]); (try simp only [List.set_cons_succ]); (try simp only [List.set_cons_zero])
          refine wpLexP_pure ?_ ?_ ?_ ?_
          focus exact wanted_yes rfl rfl
          rotate_left
          focus (intro wq hq; go_simp; first | done | with_reducible rfl)
          (simp only [Act.put, List.setIfInBounds_toArray]); (try simp only [List.set_cons_succ]); (try simp only [List.set_cons_zero])
          refine wpLexP_pure ?_ ?_ ?_ ?_
          focus exact wanted_yes rfl rfl
          rotate_left
          focus (intro wq hq; go_simp; first | done | with_reducible rfl)
          (simp only [Act.put, List.setIfInBounds_toArray]); (try simp only [List.set_cons_succ]); (try simp only [List.set_cons_zero])
          refine wpLexP_pure ?_ ?_ ?_ ?_
          focus exact wanted_yes rfl rfl
          rotate_left
          focus (intro wq hq; go_simp; first | done | with_reducible rfl)
          (simp only [Act.put, List.setIfInBounds_toArray]); (try simp only [List.set_cons_succ]); (try simp only [List.set_cons_zero])
          refine wpLexP_pure ?_ ?_ ?_ ?_
          focus exact wanted_yes rfl rfl
          rotate_left
          focus (intro wq hq; go_simp; first | done | with_reducible rfl)
          (simp only [Act.put, List.setIfInBounds_toArray]); (try simp only [List.set_cons_succ]); (try simp only [List.set_cons_zero])
          refine wpLexP_solo ?_ (fun K hK => ?_)
          focus exact wanted_yes rfl rfl
          go_simp
          go_at_call 11
          refine (rhost_any _ _ _ _ (by assumption) (by assumption) (by assumption) (by assumption) (by assumption)).mono ?_
          rintro e w' ⟨rfl, rfl⟩
          refine hK.out _ _ ?_ ?_
          focus (repeat (first | with_reducible assumption | refine Since.alloc ?_ _ | refine Since.drew ?_ | refine Since.next ?_ (by with_reducible assumption)))
          clear hK K
          try (simp only [Act.put, List.setIfInBounds_toArray]); (try simp only [List.set_cons_succ]); (try simp only [List.set_cons_zero])
          cases q1 : hostB a (z 13) (z 15)
          case false =>
            try simp only [q1]
            refine wpLexP_pure ?_ ?_ ?_ ?_
            focus exact wanted_yes rfl rfl
            rotate_left
            focus (intro wq hq; go_simp; first | done | with_reducible rfl)
            (simp only [Act.put, List.setIfInBounds_toArray]); (try simp only [List.set_cons_succ]); (try simp only [List.set_cons_zero])
            refine wpLexP_pure ?_ ?_ ?_ ?_
            focus exact wanted_yes rfl rfl
            rotate_left
            focus (intro wq hq; go_simp; first | done | with_reducible rfl)
            (simp only [Act.put, List.setIfInBounds_toArray]); (try simp only [List.set_cons_succ]); (try simp only [List.set_cons_zero])
            refine wpLexP_pure ?_ ?_ ?_ ?_
            focus exact wanted_none rfl
            rotate_left
            focus (intro wq hq; go_simp; first | done | with_reducible rfl)
            (simp only [Act.put, List.setIfInBounds_toArray]); (try simp only [List.set_cons_succ]); (try simp only [List.set_cons_zero])
            refine wpLexP_pure ?_ ?_ ?_ ?_
            focus exact wanted_none rfl
            rotate_left
            focus (intro wq hq; go_simp; first | done | with_reducible rfl)
            (simp only [Act.put, List.setIfInBounds_toArray]); (try simp only [List.set_cons_succ]); (try simp only [List.set_cons_zero])
            refine wpLexP_nil ?_
            go_wp2_with fail
            go_roundw
            case rel => exact ⟨2, _, rfl, rfl, by repeat (first | with_reducible assumption | refine Since.alloc ?_ _ | refine Since.drew ?_ | refine Since.next ?_ (by with_reducible assumption)), .inr (.inr ⟨rfl, by rw [Hn.out.2]; (try rw [hq]); simp [q0, q1]⟩)⟩
            case measure => simp [intOf]
          case true =>
            try simp only [q1]
            refine wpLexP_pure ?_ ?_ ?_ ?_
            focus exact wanted_yes rfl rfl
            rotate_left
            focus (intro wq hq; go_simp; first | done | with_reducible rfl)
            (simp only [Act.put, List.setIfInBounds_toArray]); (try simp only [List.set_cons_succ]); (try simp only [List.set_cons_zero])
            refine wpLexP_pure ?_ ?_ ?_ ?_
            focus exact wanted_yes rfl rfl
            rotate_left
            focus (intro wq hq; go_simp; first | done | with_reducible rfl)
            (simp only [Act.put, List.setIfInBounds_toArray]); (try simp only [List.set_cons_succ]); (try simp only [List.set_cons_zero])
            refine wpLexP_pure ?_ ?_ ?_ ?_
            focus exact wanted_none rfl
            rotate_left
            focus (intro wq hq; go_simp; first | done | with_reducible rfl)
            (simp only [Act.put, List.setIfInBounds_toArray]); (try simp only [List.set_cons_succ]); (try simp only [List.set_cons_zero])
            refine wpLexP_pure ?_ ?_ ?_ ?_
            focus exact wanted_none rfl
            rotate_left
            focus (intro wq hq; go_simp; first | done | with_reducible rfl)
            (simp only [Act.put, List.setIfInBounds_toArray]); (try simp only [List.set_cons_succ]); (try simp only [List.set_cons_zero])
            refine wpLexP_nil ?_
            go_wp2_with fail
            go_roundw
            case rel => exact ⟨2, _, rfl, rfl, by repeat (first | with_reducible assumption | refine Since.alloc ?_ _ | refine Since.drew ?_ | refine Since.next ?_ (by with_reducible assumption)), .inr (.inr ⟨rfl, by rw [Hn.out.2]; (try rw [hq]); simp [q0, q1]⟩)⟩
            case measure => simp [intOf]
      · go_wp2_with fail
        refine wp_region_lexp (Since (w.alloc (.cells cs 33))) [false, false, false, false, false, false, false, false, false, false, false, true, false, false, false, false, false, false, false, false, false, false, true, false, false, false, false] (by kernel_rfl) always8_ok (by intro c a d v w h; cases d <;> exact h) hb.drew ?_
        refine wpLexP_pure ?_ ?_ ?_ ?_
        focus exact wanted_none rfl
        rotate_left
        focus (intro wq hq; go_simp; first | done | with_reducible rfl)
        (simp only [Act.put, List.setIfInBounds_toArray]); (try simp only [List.set_cons_succ]); (try simp only [List.set_cons_zero])
        refine wpLexP_pure ?_ ?_ ?_ ?_
        focus exact wanted_none rfl
        rotate_left
        focus (intro wq hq; go_simp; first | done | with_reducible rfl)
        (simp only [Act.put, List.setIfInBounds_toArray]); (try simp only [List.set_cons_succ]); (try simp only [List.set_cons_zero])
        refine wpLexP_skip ?_ ?_
        focus exact unwanted rfl rfl rfl
        (simp only [Act.put, List.setIfInBounds_toArray]); (try simp only [List.set_cons_succ]); (try simp only [List.set_cons_zero])
        refine wpLexP_skip ?_ ?_
        focus exact unwanted rfl rfl rfl
        (simp only [Act.put, List.setIfInBounds_toArray]); (try simp only [List.set_cons_succ]); (try simp only [List.set_cons_zero])
        refine wpLexP_skip ?_ ?_
        focus exact unwanted rfl rfl rfl
        (simp only [Act.put, List.setIfInBounds_toArray]); (try simp only [List.set_cons_succ]); (try simp only [List.set_cons_zero])
        refine wpLexP_skip ?_ ?_
        focus exact unwanted rfl rfl rfl
        (simp only [Act.put, List.setIfInBounds_toArray]); (try simp only [List.set_cons_succ]); (try simp only [List.set_cons_zero])
        refine wpLexP_skip ?_ ?_
        focus exact unwanted rfl rfl rfl
        (simp only [Act.put, List.setIfInBounds_toArray]); (try simp only [List.set_cons_succ]); (try simp only [List.set_cons_zero])
        refine wpLexP_skip ?_ ?_
        focus exact unwanted rfl rfl rfl
        (simp only [Act.put, List.setIfInBounds_toArray]); (try simp only [List.set_cons_succ]); (try simp only [List.set_cons_zero])
        refine wpLexP_skip ?_ ?_
        focus exact unwanted rfl rfl rfl
        (simp only [Act.put, List.setIfInBounds_toArray]); (try simp only [List.set_cons_succ]); (try simp only [List.set_cons_zero])
        refine wpLexP_skip ?_ ?_
        focus exact unwanted rfl rfl rfl
        (simp only [Act.put, List.setIfInBounds_toArray]); (try simp only [List.set_cons_succ]); (try simp only [List.set_cons_zero])
        refine wpLexP_skip ?_ ?_
        focus exact unwanted rfl rfl rfl
        (simp only [Act.put, List.setIfInBounds_toArray]); (try simp only [List.set_cons_succ]); (try simp only [List.set_cons_zero])
        refine wpLexP_skip ?_ ?_
        focus exact unwanted rfl rfl rfl
        (simp only [Act.put, List.setIfInBounds_toArray]); (try simp only [List.set_cons_succ]); (try simp only [List.set_cons_zero])
        refine wpLexP_skip ?_ ?_
        focus exact unwanted rfl rfl rfl
        (simp only [Act.put, List.setIfInBounds_toArray]); (try simp only [List.set_cons_succ]); (try simp only [List.set_cons_zero])
        refine wpLexP_skip ?_ ?_
        focus exact unwanted_none rfl rfl
        (simp only [Act.put, List.setIfInBounds_toArray]); (try simp only [List.set_cons_succ]); (try simp only [List.set_cons_zero])
        refine wpLexP_skip ?_ ?_
        focus exact unwanted_none rfl rfl
        (simp only [Act.put, List.setIfInBounds_toArray]); (try simp only [List.set_cons_succ]); (try simp only [List.set_cons_zero])
        refine wpLexP_skip ?_ ?_
        focus exact unwanted_none rfl rfl
        (simp only [Act.put, List.setIfInBounds_toArray]); (try simp only [List.set_cons_succ]); (try simp only [List.set_cons_zero])
        refine wpLexP_skip ?_ ?_
        focus exact unwanted_none rfl rfl
        (simp only [Act.put, List.setIfInBounds_toArray]); (try simp only [List.set_cons_succ]); (try simp only [List.set_cons_zero])
        refine wpLexP_skip ?_ ?_
        focus exact unwanted_none rfl rfl
        (simp only [Act.put, List.setIfInBounds_toArray]); (try simp only [List.set_cons_succ]); (try simp only [List.set_cons_zero])
        refine wpLexP_skip ?_ ?_
        focus exact unwanted_none rfl rfl
        (simp only [Act.put, List.setIfInBounds_toArray]); (try simp only [List.set_cons_succ]); (try simp only [List.set_cons_zero])
        refine wpLexP_skip ?_ ?_
        focus exact unwanted_none rfl rfl
        (simp only [Act.put, List.setIfInBounds_toArray]); (try simp only [List.set_cons_succ]); (try simp only [List.set_cons_zero])
        refine wpLexP_skip ?_ ?_
        focus exact unwanted_none rfl rfl
        (simp only [Act.put, List.setIfInBounds_toArray]); (try simp only [List.set_cons_succ]); (try simp only [List.set_cons_zero])
        refine wpLexP_skip ?_ ?_
        focus exact unwanted_none rfl rfl
        (simp only [Act.put, List.setIfInBounds_toArray]); (try simp only [List.set_cons_succ]); (try simp only [List.set_cons_zero])
        refine wpLexP_skip ?_ ?_
        focus exact unwanted_none rfl rfl
        (simp only [Act.put, List.setIfInBounds_toArray]); (try simp only [List.set_cons_succ]); (try simp only [List.set_cons_zero])
        refine wpLexP_skip ?_ ?_
        focus exact unwanted_none rfl rfl
        (simp only [Act.put, List.setIfInBounds_toArray]); (try simp only [List.set_cons_succ]); (try simp only [List.set_cons_zero])
        refine wpLexP_skip ?_ ?_
        focus exact unwanted rfl rfl rfl
        (simp only [Act.put, List.setIfInBounds_toArray]); (try simp only [List.set_cons_succ]); (try simp only [List.set_cons_zero])
        refine wpLexP_pure ?_ ?_ ?_ ?_
        focus exact wanted_none rfl
        rotate_left
        focus (intro wq hq; go_simp; first | done | with_reducible rfl)
        (simp only [Act.put, List.setIfInBounds_toArray]); (try simp only [List.set_cons_succ]); (try simp only [List.set_cons_zero])
        refine wpLexP_pure ?_ ?_ ?_ ?_
        focus exact wanted_none rfl
        rotate_left
        focus (intro wq hq; go_simp; first | done | with_reducible rfl)
        (simp only [Act.put, List.setIfInBounds_toArray]); (try simp only [List.set_cons_succ]); (try simp only [List.set_cons_zero])
        refine wpLexP_nil ?_
        go_wp2_with fail
        go_roundw
        case rel => exact ⟨2, _, rfl, rfl, by repeat (first | with_reducible assumption | refine Since.alloc ?_ _ | refine Since.drew ?_ | refine Since.next ?_ (by with_reducible assumption)), .inr (.inr ⟨rfl, by rw [Hn.out.2]; (try rw [hq]); simp []⟩)⟩
        case measure => simp [intOf]
    · -- behind both
      have he := He.out
      rcases he with ⟨rfl, hq⟩ | ⟨rfl, hq⟩
      all_goals
        simp only [hq]
        go_wp2_with (first
          | (go_at_call 7; refine (lives_any _).mono ?_; rintro e w3 ⟨rfl, hb3⟩))
        go_ret
        exact ⟨rfl, (Since.first w _).trans (hb.next hb3)⟩
end Go.Proofs.Ytejkambjfcpagaa
