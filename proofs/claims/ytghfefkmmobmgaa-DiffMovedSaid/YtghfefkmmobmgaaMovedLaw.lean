/-
  The law DiffMoved of layer 48: the given statement, proved. No condition. Written by program (gen_moved.py).
-/
import Derived.Test.YtghfefkmmobmgaaCeL
import Derived.Test.YtghfefkmmobmgaaMoved
import Derived.Test.YtghfefkmmobmgaaPlan
namespace Go.Proofs.Ytghfefkmmobmgaa
open Go.ChangeShapes Go.WideShapes Go.ChangeAt Go.RowKit

theorem diff_lives (w : World) : Calls Try.prog 13 #[] w fun e w' => e = .returned (.bool true) ∧ Below w.heap.size w w' :=
  lives_of (steps := 100000) (d := 60) (by kernel_rfl) w

theorem cnt_end (V U : Nat → Int) (m n : Nat) : cntW V U m n (max m n) = max m n - min m n + cntD V U (min m n) := by
  rw [cntW_high V U m n (min m n) rfl (max m n) (by omega)]; omega

theorem region9_ok : lexOk ((regionOf 9 (Try.f3.body.getD .skip)).getD #[]) [false, false, false, false, false, false, false, false, false, false, false, false, false, false, false, false, false, false, false, false, false] = true := by kernel_rfl

set_option maxRecDepth 100000 in
set_option maxHeartbeats 8000000 in
theorem dmoved_any (p q : Option Addr) (m n c c' : Nat) (V U : Nat → Int) (w : World) (hmc : m ≤ c) (hnc : n ≤ c') (hc : c ≤ maxLen) (hc' : c' ≤ maxLen) (hp : IntsAt w p m V) (hq : IntsAt w q n U) :
    Calls Try.prog 3 #[.slice p m c, .slice q n c'] w fun e w' => e = .returned (.bool true) ∧ Below w.heap.size w w' := by
  unfold maxLen at hc hc'
  go_enter Try.func3, Try.ntmps3
  go_wp2
  · -- 300 300
    have hdn : decide ((300 : Int) < (n : Int)) = true := by rw [decide_eq_true_eq]; omega
    rw [hdn]
    clear hdn
    have hdm : decide ((300 : Int) < (m : Int)) = true := by rw [decide_eq_true_eq]; omega
    rw [hdm]
    clear hdm
    obtain ⟨M3, hG⟩ : ∃ M3 : Nat, M3 = 300 := ⟨_, rfl⟩
    rw [← hG]
    have hM3 : M3 ≤ 300 := by omega
    have hN3 : M3 ≤ 300 := by omega
    have hp1 : IntsAt w p M3 V := (fun i hi => hp i (by omega))
    have hq1 : IntsAt w q M3 U := (fun i hi => hq i (by omega))
    have hMc : M3 ≤ c := by omega
    have hNc : M3 ≤ c' := by omega
    clear hG
    go_loopw [5, 6] (fun nn i wr => ∃ k : Nat, k ≤ M3 ∧ i = .int .i64 k ∧ nn = .int .i64 (cntW V U M3 M3 k : Nat) ∧ Below w.heap.size w wr) (fun _ i => fun _ => M3 - (intOf i).toNat)
    case atStart => exact ⟨0, Nat.zero_le _, rfl, rfl, Below.refl _ _⟩
    case round =>
      obtain ⟨k, hk, rfl, rfl, hbw⟩ := hrel
      have hle := cntW_le V U M3 M3 k
      have hp2 := hp1.below hbw
      have hq2 := hq1.below hbw
      by_cases hM : k < M3
      · have hMi : (k : Int) < (M3 : Nat) := by omega
        by_cases hN : k < M3
        · have hNi : (k : Int) < (M3 : Nat) := by omega
          obtain ⟨b, o, rfl, h0⟩ := hp2 k hM
          obtain ⟨b2, o2, rfl, h1⟩ := hq2 k hN
          by_cases heq : V k = U k
          · have hd : (V k != U k) = false := by simp [heq]
            go_wp2
            go_quiet (fail)
            go_wp2
            first
              | exact ⟨⟨k + 1, by omega, by go_num, by first | (simp [cntW, heq, hM]; done) | simp [cntW, heq, hM, hN], by first | exact hbw | exact hbw.drew | exact drewN_below hbw _⟩, by simp only [intOf]; omega⟩
              | (go_roundw
                 case rel => exact ⟨k + 1, by omega, by go_num, by first | (simp [cntW, heq, hM]; done) | simp [cntW, heq, hM, hN], by first | exact hbw | exact hbw.drew | exact drewN_below hbw _⟩
                 case measure => simp only [intOf]; omega)
          · have hd : (V k != U k) = true := by simp [heq]
            go_wp2
            go_quiet (fail)
            go_wp2
            first
              | exact ⟨⟨k + 1, by omega, by go_num, by simp [cntW, heq], by first | exact hbw | exact hbw.drew | exact drewN_below hbw _⟩, by simp only [intOf]; omega⟩
              | (go_roundw
                 case rel => exact ⟨k + 1, by omega, by go_num, by simp [cntW, heq], by first | exact hbw | exact hbw.drew | exact drewN_below hbw _⟩
                 case measure => simp only [intOf]; omega)
        · have hNi : ¬ (k : Int) < (M3 : Nat) := by omega
          exfalso; omega
      · have hMi : ¬ (k : Int) < (M3 : Nat) := by omega
        have hMi2 : ((M3 : Nat) : Int) ≤ k := by omega
        by_cases hN : k < M3
        · have hNi : (k : Int) < (M3 : Nat) := by omega
          exfalso; omega
        · have hNi : ¬ (k : Int) < (M3 : Nat) := by omega
          have hke : k = M3 := by omega
          have hend : cntW V U M3 M3 k = max M3 M3 - min M3 M3 + cntD V U (min M3 M3) := by rw [← cnt_end]; congr 1 <;> omega
          generalize hx : cntW V U M3 M3 k = x at *
          have hm1 := moved_any p q M3 M3 c c' V U wr hM3 hN3 hp2 hq2
          have hm2 := moved_any q p M3 M3 c' c U V wr hN3 hM3 hq2 hp2
          have hs0 := rsame_any p q M3 M3 c c' V U wr hM3 hN3 hp2 hq2
          rw [show max M3 M3 - min M3 M3 + cntD V U (min M3 M3) = x by omega] at hm1
          rw [show max M3 M3 - min M3 M3 + cntD U V (min M3 M3) = x by rw [Nat.max_comm, Nat.min_comm, ← cntD_swap]; omega] at hm2
          have hs1 : Calls Try.prog 12 #[.slice p M3 c, .slice q M3 c'] wr fun e w' => e = .returned (.bool ((x : Int) == 0)) ∧ Below wr.heap.size wr w' := hs0.mono fun e w' ⟨r, h1, h2, h3⟩ => by
            refine ⟨?_, h3⟩
            rw [h1]
            have : r = ((x : Int) == 0) := by
              rw [Bool.eq_iff_iff, h2]
              simp only [beq_iff_eq]
              constructor
              · rintro ⟨hmn, h⟩; rw [show min M3 M3 = M3 by omega] at hend; omega
              · intro h
                have h0 : x = 0 := by omega
                have hmn : M3 = M3 := by omega
                refine ⟨by first | exact hmn | trivial, ?_⟩
                have : min M3 M3 = M3 := by omega
                rw [this] at hend; omega
            rw [this]
          have Hm1 := Lib.hid hm1
          have Hm2 := Lib.hid hm2
          have Hs1 := Lib.hid hs1
          clear hm1 hm2 hs0 hs1 hp1 hq1 hp2 hq2 hp hq hend hx hle
          go_wp2_with (first
            | (go_at_call 11; first
                | (with_reducible refine Hm1.out.mono ?_; rintro _ w' ⟨rfl, rfl⟩)
                | (with_reducible refine Hm2.out.mono ?_; rintro _ w' ⟨rfl, rfl⟩))
            | (go_at_call 12; refine Hs1.out.mono ?_; rintro _ w1 ⟨rfl, hb1⟩)
            | (go_at_call 13; refine (diff_lives _).mono ?_; rintro _ w2 ⟨rfl, hb2⟩))
          all_goals go_ret
          all_goals first
            | exact ⟨rfl, below_step (below_step hbw hb1) hb2⟩
            | (exfalso; simp_all; done)
  · -- 300 n
    have hdm : decide ((300 : Int) < (m : Int)) = true := by rw [decide_eq_true_eq]; omega
    rw [hdm]
    clear hdm
    obtain ⟨M3, hG⟩ : ∃ M3 : Nat, M3 = 300 := ⟨_, rfl⟩
    rw [← hG]
    have hM3 : M3 ≤ 300 := by omega
    have hN3 : n ≤ 300 := by omega
    have hp1 : IntsAt w p M3 V := (fun i hi => hp i (by omega))
    have hq1 : IntsAt w q n U := hq
    have hMc : M3 ≤ c := by omega
    have hNc : n ≤ c' := by omega
    clear hG
    go_loopw [5, 6] (fun nn i wr => ∃ k : Nat, k ≤ max M3 n ∧ i = .int .i64 k ∧ nn = .int .i64 (cntW V U M3 n k : Nat) ∧ Below w.heap.size w wr) (fun _ i => fun _ => max M3 n - (intOf i).toNat)
    case atStart => exact ⟨0, Nat.zero_le _, rfl, rfl, Below.refl _ _⟩
    case round =>
      obtain ⟨k, hk, rfl, rfl, hbw⟩ := hrel
      have hle := cntW_le V U M3 n k
      have hp2 := hp1.below hbw
      have hq2 := hq1.below hbw
      by_cases hM : k < M3
      · have hMi : (k : Int) < (M3 : Nat) := by omega
        by_cases hN : k < n
        · have hNi : (k : Int) < (n : Nat) := by omega
          obtain ⟨b, o, rfl, h0⟩ := hp2 k hM
          obtain ⟨b2, o2, rfl, h1⟩ := hq2 k hN
          by_cases heq : V k = U k
          · have hd : (V k != U k) = false := by simp [heq]
            go_wp2
            go_quiet (fail)
            go_wp2
            first
              | exact ⟨⟨k + 1, by omega, by go_num, by first | (simp [cntW, heq, hM]; done) | simp [cntW, heq, hM, hN], by first | exact hbw | exact hbw.drew | exact drewN_below hbw _⟩, by simp only [intOf]; omega⟩
              | (go_roundw
                 case rel => exact ⟨k + 1, by omega, by go_num, by first | (simp [cntW, heq, hM]; done) | simp [cntW, heq, hM, hN], by first | exact hbw | exact hbw.drew | exact drewN_below hbw _⟩
                 case measure => simp only [intOf]; omega)
          · have hd : (V k != U k) = true := by simp [heq]
            go_wp2
            go_quiet (fail)
            go_wp2
            first
              | exact ⟨⟨k + 1, by omega, by go_num, by simp [cntW, heq], by first | exact hbw | exact hbw.drew | exact drewN_below hbw _⟩, by simp only [intOf]; omega⟩
              | (go_roundw
                 case rel => exact ⟨k + 1, by omega, by go_num, by simp [cntW, heq], by first | exact hbw | exact hbw.drew | exact drewN_below hbw _⟩
                 case measure => simp only [intOf]; omega)
        · have hNi : ¬ (k : Int) < (n : Nat) := by omega
          go_wp2
          refine wp_region_lexp (Since wr) [false, false, false, false, false, false, false, false, false, false, false, false, false, false, false, false, false, false, false, false, false] (by kernel_rfl) region9_ok (by intro c a d v w h; cases d <;> exact h) (Since.refl wr).drew ?_
          refine wpLexP_pure ?_ ?_ ?_ ?_
          focus exact wanted_none rfl
          rotate_left
          focus (intro wq hq; go_simp; first | done | with_reducible rfl)
          (simp only [Act.put, List.setIfInBounds_toArray]); (try simp only [List.set_cons_succ]); (try simp only [List.set_cons_zero])
          refine wpLexP_pure ?_ ?_ ?_ ?_
          focus exact wanted_none rfl
          rotate_left
          focus (intro wq hq; go_simp; first | done | with_reducible rfl)
          (simp only [Act.put, List.setIfInBounds_toArray]); (try simp only [List.set_cons_succ]); (try simp only [List.set_cons_zero])
          refine wpLexP_pure ?_ ?_ ?_ ?_
          focus exact wanted_none rfl
          rotate_left
          focus (intro wq hq; go_simp; first | done | with_reducible rfl)
          (simp only [Act.put, List.setIfInBounds_toArray]); (try simp only [List.set_cons_succ]); (try simp only [List.set_cons_zero])
          refine wpLexP_pure ?_ ?_ ?_ ?_
          focus exact wanted_none rfl
          rotate_left
          focus (intro wq hq; go_simp; first | done | with_reducible rfl)
          (simp only [Act.put, List.setIfInBounds_toArray]); (try simp only [List.set_cons_succ]); (try simp only [List.set_cons_zero])
          cases e3 : decide (M3 ≤ k)
          case false =>
            try simp only [e3]
            refine wpLexP_pure ?_ ?_ ?_ ?_
            focus exact wanted_none rfl
            rotate_left
            focus (intro wq hq; go_simp; first | done | with_reducible rfl)
            (simp only [Act.put, List.setIfInBounds_toArray]); (try simp only [List.set_cons_succ]); (try simp only [List.set_cons_zero])
            refine wpLexP_pure ?_ ?_ ?_ ?_
            focus exact wanted_yes rfl rfl
            rotate_left
            focus (intro wq hq; go_simp; first | done | with_reducible rfl)
            (simp only [Act.put, List.setIfInBounds_toArray]); (try simp only [List.set_cons_succ]); (try simp only [List.set_cons_zero])
            refine wpLexP_pure ?_ ?_ ?_ ?_
            focus exact wanted_yes rfl rfl
            rotate_left
            focus (intro wq hq; go_simp; first | done | with_reducible rfl)
            (simp only [Act.put, List.setIfInBounds_toArray]); (try simp only [List.set_cons_succ]); (try simp only [List.set_cons_zero])
            refine wpLexP_pure ?_ ?_ ?_ ?_
            focus exact wanted_yes rfl rfl
            rotate_left
            focus (intro wq hq; go_simp; first | done | with_reducible rfl)
            (simp only [Act.put, List.setIfInBounds_toArray]); (try simp only [List.set_cons_succ]); (try simp only [List.set_cons_zero])
            refine wpLexP_pure ?_ ?_ ?_ ?_
            focus exact wanted_yes rfl rfl
            rotate_left
            focus (intro wq hq; go_simp; first | done | with_reducible rfl)
            (simp only [Act.put, List.setIfInBounds_toArray]); (try simp only [List.set_cons_succ]); (try simp only [List.set_cons_zero])
            cases e8 : decide (n ≤ k)
            case false =>
              (exfalso; revert e8; first | (simp; done) | (simp; omega))
            case true =>
              try simp only [e8]
              refine wpLexP_pure ?_ ?_ ?_ ?_
              focus exact wanted_none rfl
              rotate_left
              focus (intro wq hq; go_simp; first | done | with_reducible rfl)
              (simp only [Act.put, List.setIfInBounds_toArray]); (try simp only [List.set_cons_succ]); (try simp only [List.set_cons_zero])
              refine wpLexP_pure ?_ ?_ ?_ ?_
              focus exact wanted_none rfl
              rotate_left
              focus (intro wq hq; go_simp; first | done | with_reducible rfl)
              (simp only [Act.put, List.setIfInBounds_toArray]); (try simp only [List.set_cons_succ]); (try simp only [List.set_cons_zero])
              refine wpLexP_skip ?_ ?_
              focus exact unwanted rfl rfl rfl
              (simp only [Act.put, List.setIfInBounds_toArray]); (try simp only [List.set_cons_succ]); (try simp only [List.set_cons_zero])
              refine wpLexP_skip ?_ ?_
              focus exact unwanted rfl rfl rfl
              (simp only [Act.put, List.setIfInBounds_toArray]); (try simp only [List.set_cons_succ]); (try simp only [List.set_cons_zero])
              refine wpLexP_skip ?_ ?_
              focus exact unwanted rfl rfl rfl
              (simp only [Act.put, List.setIfInBounds_toArray]); (try simp only [List.set_cons_succ]); (try simp only [List.set_cons_zero])
              refine wpLexP_skip ?_ ?_
              focus exact unwanted rfl rfl rfl
              (simp only [Act.put, List.setIfInBounds_toArray]); (try simp only [List.set_cons_succ]); (try simp only [List.set_cons_zero])
              refine wpLexP_skip ?_ ?_
              focus exact unwanted rfl rfl rfl
              (simp only [Act.put, List.setIfInBounds_toArray]); (try simp only [List.set_cons_succ]); (try simp only [List.set_cons_zero])
              refine wpLexP_skip ?_ ?_
              focus exact unwanted rfl rfl rfl
              (simp only [Act.put, List.setIfInBounds_toArray]); (try simp only [List.set_cons_succ]); (try simp only [List.set_cons_zero])
              refine wpLexP_skip ?_ ?_
              focus exact unwanted rfl rfl rfl
              (simp only [Act.put, List.setIfInBounds_toArray]); (try simp only [List.set_cons_succ]); (try simp only [List.set_cons_zero])
              refine wpLexP_skip ?_ ?_
              focus exact unwanted rfl rfl rfl
              (simp only [Act.put, List.setIfInBounds_toArray]); (try simp only [List.set_cons_succ]); (try simp only [List.set_cons_zero])
              refine wpLexP_skip ?_ ?_
              focus exact unwanted rfl rfl rfl
              (simp only [Act.put, List.setIfInBounds_toArray]); (try simp only [List.set_cons_succ]); (try simp only [List.set_cons_zero])
              refine wpLexP_pure ?_ ?_ ?_ ?_
              focus exact wanted_none rfl
              rotate_left
              focus (intro wq hq; go_simp; first | done | with_reducible rfl)
              (simp only [Act.put, List.setIfInBounds_toArray]); (try simp only [List.set_cons_succ]); (try simp only [List.set_cons_zero])
              refine wpLexP_nil ?_
              go_wp2_with fail
              exact ⟨⟨k + 1, by omega, by go_num, by simp [cntW, hN], by first | exact hbw | exact hbw.drew | exact drewN_below hbw _⟩, by simp only [intOf]; omega⟩
          case true =>
            (exfalso; revert e3; first | (simp; done) | (simp; omega))
      · have hMi : ¬ (k : Int) < (M3 : Nat) := by omega
        have hMi2 : ((M3 : Nat) : Int) ≤ k := by omega
        by_cases hN : k < n
        · have hNi : (k : Int) < (n : Nat) := by omega
          go_wp2
          refine wp_region_lexp (Since wr) [false, false, false, false, false, false, false, false, false, false, false, false, false, false, false, false, false, false, false, false, false] (by kernel_rfl) region9_ok (by intro c a d v w h; cases d <;> exact h) (Since.refl wr).drew ?_
          refine wpLexP_pure ?_ ?_ ?_ ?_
          focus exact wanted_none rfl
          rotate_left
          focus (intro wq hq; go_simp; first | done | with_reducible rfl)
          (simp only [Act.put, List.setIfInBounds_toArray]); (try simp only [List.set_cons_succ]); (try simp only [List.set_cons_zero])
          refine wpLexP_pure ?_ ?_ ?_ ?_
          focus exact wanted_none rfl
          rotate_left
          focus (intro wq hq; go_simp; first | done | with_reducible rfl)
          (simp only [Act.put, List.setIfInBounds_toArray]); (try simp only [List.set_cons_succ]); (try simp only [List.set_cons_zero])
          refine wpLexP_pure ?_ ?_ ?_ ?_
          focus exact wanted_none rfl
          rotate_left
          focus (intro wq hq; go_simp; first | done | with_reducible rfl)
          (simp only [Act.put, List.setIfInBounds_toArray]); (try simp only [List.set_cons_succ]); (try simp only [List.set_cons_zero])
          refine wpLexP_pure ?_ ?_ ?_ ?_
          focus exact wanted_none rfl
          rotate_left
          focus (intro wq hq; go_simp; first | done | with_reducible rfl)
          (simp only [Act.put, List.setIfInBounds_toArray]); (try simp only [List.set_cons_succ]); (try simp only [List.set_cons_zero])
          cases e3 : decide (M3 ≤ k)
          case false =>
            (exfalso; revert e3; first | (simp; done) | (simp; omega))
          case true =>
            try simp only [e3]
            refine wpLexP_pure ?_ ?_ ?_ ?_
            focus exact wanted_none rfl
            rotate_left
            focus (intro wq hq; go_simp; first | done | with_reducible rfl)
            (simp only [Act.put, List.setIfInBounds_toArray]); (try simp only [List.set_cons_succ]); (try simp only [List.set_cons_zero])
            refine wpLexP_skip ?_ ?_
            focus exact unwanted rfl rfl rfl
            (simp only [Act.put, List.setIfInBounds_toArray]); (try simp only [List.set_cons_succ]); (try simp only [List.set_cons_zero])
            refine wpLexP_skip ?_ ?_
            focus exact unwanted rfl rfl rfl
            (simp only [Act.put, List.setIfInBounds_toArray]); (try simp only [List.set_cons_succ]); (try simp only [List.set_cons_zero])
            refine wpLexP_skip ?_ ?_
            focus exact unwanted rfl rfl rfl
            (simp only [Act.put, List.setIfInBounds_toArray]); (try simp only [List.set_cons_succ]); (try simp only [List.set_cons_zero])
            refine wpLexP_skip ?_ ?_
            focus exact unwanted rfl rfl rfl
            (simp only [Act.put, List.setIfInBounds_toArray]); (try simp only [List.set_cons_succ]); (try simp only [List.set_cons_zero])
            refine wpLexP_pure ?_ ?_ ?_ ?_
            focus exact wanted_none rfl
            rotate_left
            focus (intro wq hq; go_simp; first | done | with_reducible rfl)
            (simp only [Act.put, List.setIfInBounds_toArray]); (try simp only [List.set_cons_succ]); (try simp only [List.set_cons_zero])
            refine wpLexP_pure ?_ ?_ ?_ ?_
            focus exact wanted_none rfl
            rotate_left
            focus (intro wq hq; go_simp; first | done | with_reducible rfl)
            (simp only [Act.put, List.setIfInBounds_toArray]); (try simp only [List.set_cons_succ]); (try simp only [List.set_cons_zero])
            refine wpLexP_skip ?_ ?_
            focus exact unwanted rfl rfl rfl
            (simp only [Act.put, List.setIfInBounds_toArray]); (try simp only [List.set_cons_succ]); (try simp only [List.set_cons_zero])
            refine wpLexP_skip ?_ ?_
            focus exact unwanted rfl rfl rfl
            (simp only [Act.put, List.setIfInBounds_toArray]); (try simp only [List.set_cons_succ]); (try simp only [List.set_cons_zero])
            refine wpLexP_skip ?_ ?_
            focus exact unwanted rfl rfl rfl
            (simp only [Act.put, List.setIfInBounds_toArray]); (try simp only [List.set_cons_succ]); (try simp only [List.set_cons_zero])
            refine wpLexP_skip ?_ ?_
            focus exact unwanted rfl rfl rfl
            (simp only [Act.put, List.setIfInBounds_toArray]); (try simp only [List.set_cons_succ]); (try simp only [List.set_cons_zero])
            refine wpLexP_skip ?_ ?_
            focus exact unwanted rfl rfl rfl
            (simp only [Act.put, List.setIfInBounds_toArray]); (try simp only [List.set_cons_succ]); (try simp only [List.set_cons_zero])
            refine wpLexP_skip ?_ ?_
            focus exact unwanted rfl rfl rfl
            (simp only [Act.put, List.setIfInBounds_toArray]); (try simp only [List.set_cons_succ]); (try simp only [List.set_cons_zero])
            refine wpLexP_skip ?_ ?_
            focus exact unwanted rfl rfl rfl
            (simp only [Act.put, List.setIfInBounds_toArray]); (try simp only [List.set_cons_succ]); (try simp only [List.set_cons_zero])
            refine wpLexP_skip ?_ ?_
            focus exact unwanted rfl rfl rfl
            (simp only [Act.put, List.setIfInBounds_toArray]); (try simp only [List.set_cons_succ]); (try simp only [List.set_cons_zero])
            refine wpLexP_skip ?_ ?_
            focus exact unwanted rfl rfl rfl
            (simp only [Act.put, List.setIfInBounds_toArray]); (try simp only [List.set_cons_succ]); (try simp only [List.set_cons_zero])
            refine wpLexP_pure ?_ ?_ ?_ ?_
            focus exact wanted_none rfl
            rotate_left
            focus (intro wq hq; go_simp; first | done | with_reducible rfl)
            (simp only [Act.put, List.setIfInBounds_toArray]); (try simp only [List.set_cons_succ]); (try simp only [List.set_cons_zero])
            refine wpLexP_nil ?_
            go_wp2_with fail
            exact ⟨⟨k + 1, by omega, by go_num, by simp [cntW, hM], by first | exact hbw | exact hbw.drew | exact drewN_below hbw _⟩, by simp only [intOf]; omega⟩
        · have hNi : ¬ (k : Int) < (n : Nat) := by omega
          have hke : k = max M3 n := by omega
          have hend : cntW V U M3 n k = max M3 n - min M3 n + cntD V U (min M3 n) := by rw [← cnt_end]; congr 1 <;> omega
          generalize hx : cntW V U M3 n k = x at *
          have hm1 := moved_any p q M3 n c c' V U wr hM3 hN3 hp2 hq2
          have hm2 := moved_any q p n M3 c' c U V wr hN3 hM3 hq2 hp2
          have hs0 := rsame_any p q M3 n c c' V U wr hM3 hN3 hp2 hq2
          rw [show max M3 n - min M3 n + cntD V U (min M3 n) = x by omega] at hm1
          rw [show max n M3 - min n M3 + cntD U V (min n M3) = x by rw [Nat.max_comm, Nat.min_comm, ← cntD_swap]; omega] at hm2
          have hs1 : Calls Try.prog 12 #[.slice p M3 c, .slice q n c'] wr fun e w' => e = .returned (.bool ((x : Int) == 0)) ∧ Below wr.heap.size wr w' := hs0.mono fun e w' ⟨r, h1, h2, h3⟩ => by
            refine ⟨?_, h3⟩
            rw [h1]
            have : r = ((x : Int) == 0) := by
              rw [Bool.eq_iff_iff, h2]
              simp only [beq_iff_eq]
              constructor
              · rintro ⟨hmn, h⟩; rw [show min M3 n = M3 by omega] at hend; omega
              · intro h
                have h0 : x = 0 := by omega
                have hmn : M3 = n := by omega
                refine ⟨by first | exact hmn | trivial, ?_⟩
                have : min M3 n = M3 := by omega
                rw [this] at hend; omega
            rw [this]
          have Hm1 := Lib.hid hm1
          have Hm2 := Lib.hid hm2
          have Hs1 := Lib.hid hs1
          clear hm1 hm2 hs0 hs1 hp1 hq1 hp2 hq2 hp hq hend hx hle
          go_wp2_with (first
            | (go_at_call 11; first
                | (with_reducible refine Hm1.out.mono ?_; rintro _ w' ⟨rfl, rfl⟩)
                | (with_reducible refine Hm2.out.mono ?_; rintro _ w' ⟨rfl, rfl⟩))
            | (go_at_call 12; refine Hs1.out.mono ?_; rintro _ w1 ⟨rfl, hb1⟩)
            | (go_at_call 13; refine (diff_lives _).mono ?_; rintro _ w2 ⟨rfl, hb2⟩))
          all_goals go_ret
          all_goals first
            | exact ⟨rfl, below_step (below_step hbw hb1) hb2⟩
            | (exfalso; simp_all; done)
  · -- m 300
    have hdn : decide ((300 : Int) < (n : Int)) = true := by rw [decide_eq_true_eq]; omega
    rw [hdn]
    clear hdn
    obtain ⟨M3, hG⟩ : ∃ M3 : Nat, M3 = 300 := ⟨_, rfl⟩
    rw [← hG]
    have hM3 : m ≤ 300 := by omega
    have hN3 : M3 ≤ 300 := by omega
    have hp1 : IntsAt w p m V := hp
    have hq1 : IntsAt w q M3 U := (fun i hi => hq i (by omega))
    have hMc : m ≤ c := by omega
    have hNc : M3 ≤ c' := by omega
    clear hG
    go_loopw [5, 6] (fun nn i wr => ∃ k : Nat, k ≤ max m M3 ∧ i = .int .i64 k ∧ nn = .int .i64 (cntW V U m M3 k : Nat) ∧ Below w.heap.size w wr) (fun _ i => fun _ => max m M3 - (intOf i).toNat)
    case atStart => exact ⟨0, Nat.zero_le _, rfl, rfl, Below.refl _ _⟩
    case round =>
      obtain ⟨k, hk, rfl, rfl, hbw⟩ := hrel
      have hle := cntW_le V U m M3 k
      have hp2 := hp1.below hbw
      have hq2 := hq1.below hbw
      by_cases hM : k < m
      · have hMi : (k : Int) < (m : Nat) := by omega
        by_cases hN : k < M3
        · have hNi : (k : Int) < (M3 : Nat) := by omega
          obtain ⟨b, o, rfl, h0⟩ := hp2 k hM
          obtain ⟨b2, o2, rfl, h1⟩ := hq2 k hN
          by_cases heq : V k = U k
          · have hd : (V k != U k) = false := by simp [heq]
            go_wp2
            go_quiet (fail)
            go_wp2
            first
              | exact ⟨⟨k + 1, by omega, by go_num, by first | (simp [cntW, heq, hM]; done) | simp [cntW, heq, hM, hN], by first | exact hbw | exact hbw.drew | exact drewN_below hbw _⟩, by simp only [intOf]; omega⟩
              | (go_roundw
                 case rel => exact ⟨k + 1, by omega, by go_num, by first | (simp [cntW, heq, hM]; done) | simp [cntW, heq, hM, hN], by first | exact hbw | exact hbw.drew | exact drewN_below hbw _⟩
                 case measure => simp only [intOf]; omega)
          · have hd : (V k != U k) = true := by simp [heq]
            go_wp2
            go_quiet (fail)
            go_wp2
            first
              | exact ⟨⟨k + 1, by omega, by go_num, by simp [cntW, heq], by first | exact hbw | exact hbw.drew | exact drewN_below hbw _⟩, by simp only [intOf]; omega⟩
              | (go_roundw
                 case rel => exact ⟨k + 1, by omega, by go_num, by simp [cntW, heq], by first | exact hbw | exact hbw.drew | exact drewN_below hbw _⟩
                 case measure => simp only [intOf]; omega)
        · have hNi : ¬ (k : Int) < (M3 : Nat) := by omega
          go_wp2
          refine wp_region_lexp (Since wr) [false, false, false, false, false, false, false, false, false, false, false, false, false, false, false, false, false, false, false, false, false] (by kernel_rfl) region9_ok (by intro c a d v w h; cases d <;> exact h) (Since.refl wr).drew ?_
          refine wpLexP_pure ?_ ?_ ?_ ?_
          focus exact wanted_none rfl
          rotate_left
          focus (intro wq hq; go_simp; first | done | with_reducible rfl)
          (simp only [Act.put, List.setIfInBounds_toArray]); (try simp only [List.set_cons_succ]); (try simp only [List.set_cons_zero])
          refine wpLexP_pure ?_ ?_ ?_ ?_
          focus exact wanted_none rfl
          rotate_left
          focus (intro wq hq; go_simp; first | done | with_reducible rfl)
          (simp only [Act.put, List.setIfInBounds_toArray]); (try simp only [List.set_cons_succ]); (try simp only [List.set_cons_zero])
          refine wpLexP_pure ?_ ?_ ?_ ?_
          focus exact wanted_none rfl
          rotate_left
          focus (intro wq hq; go_simp; first | done | with_reducible rfl)
          (simp only [Act.put, List.setIfInBounds_toArray]); (try simp only [List.set_cons_succ]); (try simp only [List.set_cons_zero])
          refine wpLexP_pure ?_ ?_ ?_ ?_
          focus exact wanted_none rfl
          rotate_left
          focus (intro wq hq; go_simp; first | done | with_reducible rfl)
          (simp only [Act.put, List.setIfInBounds_toArray]); (try simp only [List.set_cons_succ]); (try simp only [List.set_cons_zero])
          cases e3 : decide (m ≤ k)
          case false =>
            try simp only [e3]
            refine wpLexP_pure ?_ ?_ ?_ ?_
            focus exact wanted_none rfl
            rotate_left
            focus (intro wq hq; go_simp; first | done | with_reducible rfl)
            (simp only [Act.put, List.setIfInBounds_toArray]); (try simp only [List.set_cons_succ]); (try simp only [List.set_cons_zero])
            refine wpLexP_pure ?_ ?_ ?_ ?_
            focus exact wanted_yes rfl rfl
            rotate_left
            focus (intro wq hq; go_simp; first | done | with_reducible rfl)
            (simp only [Act.put, List.setIfInBounds_toArray]); (try simp only [List.set_cons_succ]); (try simp only [List.set_cons_zero])
            refine wpLexP_pure ?_ ?_ ?_ ?_
            focus exact wanted_yes rfl rfl
            rotate_left
            focus (intro wq hq; go_simp; first | done | with_reducible rfl)
            (simp only [Act.put, List.setIfInBounds_toArray]); (try simp only [List.set_cons_succ]); (try simp only [List.set_cons_zero])
            refine wpLexP_pure ?_ ?_ ?_ ?_
            focus exact wanted_yes rfl rfl
            rotate_left
            focus (intro wq hq; go_simp; first | done | with_reducible rfl)
            (simp only [Act.put, List.setIfInBounds_toArray]); (try simp only [List.set_cons_succ]); (try simp only [List.set_cons_zero])
            refine wpLexP_pure ?_ ?_ ?_ ?_
            focus exact wanted_yes rfl rfl
            rotate_left
            focus (intro wq hq; go_simp; first | done | with_reducible rfl)
            (simp only [Act.put, List.setIfInBounds_toArray]); (try simp only [List.set_cons_succ]); (try simp only [List.set_cons_zero])
            cases e8 : decide (M3 ≤ k)
            case false =>
              (exfalso; revert e8; first | (simp; done) | (simp; omega))
            case true =>
              try simp only [e8]
              refine wpLexP_pure ?_ ?_ ?_ ?_
              focus exact wanted_none rfl
              rotate_left
              focus (intro wq hq; go_simp; first | done | with_reducible rfl)
              (simp only [Act.put, List.setIfInBounds_toArray]); (try simp only [List.set_cons_succ]); (try simp only [List.set_cons_zero])
              refine wpLexP_pure ?_ ?_ ?_ ?_
              focus exact wanted_none rfl
              rotate_left
              focus (intro wq hq; go_simp; first | done | with_reducible rfl)
              (simp only [Act.put, List.setIfInBounds_toArray]); (try simp only [List.set_cons_succ]); (try simp only [List.set_cons_zero])
              refine wpLexP_skip ?_ ?_
              focus exact unwanted rfl rfl rfl
              (simp only [Act.put, List.setIfInBounds_toArray]); (try simp only [List.set_cons_succ]); (try simp only [List.set_cons_zero])
              refine wpLexP_skip ?_ ?_
              focus exact unwanted rfl rfl rfl
              (simp only [Act.put, List.setIfInBounds_toArray]); (try simp only [List.set_cons_succ]); (try simp only [List.set_cons_zero])
              refine wpLexP_skip ?_ ?_
              focus exact unwanted rfl rfl rfl
              (simp only [Act.put, List.setIfInBounds_toArray]); (try simp only [List.set_cons_succ]); (try simp only [List.set_cons_zero])
              refine wpLexP_skip ?_ ?_
              focus exact unwanted rfl rfl rfl
              (simp only [Act.put, List.setIfInBounds_toArray]); (try simp only [List.set_cons_succ]); (try simp only [List.set_cons_zero])
              refine wpLexP_skip ?_ ?_
              focus exact unwanted rfl rfl rfl
              (simp only [Act.put, List.setIfInBounds_toArray]); (try simp only [List.set_cons_succ]); (try simp only [List.set_cons_zero])
              refine wpLexP_skip ?_ ?_
              focus exact unwanted rfl rfl rfl
              (simp only [Act.put, List.setIfInBounds_toArray]); (try simp only [List.set_cons_succ]); (try simp only [List.set_cons_zero])
              refine wpLexP_skip ?_ ?_
              focus exact unwanted rfl rfl rfl
              (simp only [Act.put, List.setIfInBounds_toArray]); (try simp only [List.set_cons_succ]); (try simp only [List.set_cons_zero])
              refine wpLexP_skip ?_ ?_
              focus exact unwanted rfl rfl rfl
              (simp only [Act.put, List.setIfInBounds_toArray]); (try simp only [List.set_cons_succ]); (try simp only [List.set_cons_zero])
              refine wpLexP_skip ?_ ?_
              focus exact unwanted rfl rfl rfl
              (simp only [Act.put, List.setIfInBounds_toArray]); (try simp only [List.set_cons_succ]); (try simp only [List.set_cons_zero])
              refine wpLexP_pure ?_ ?_ ?_ ?_
              focus exact wanted_none rfl
              rotate_left
              focus (intro wq hq; go_simp; first | done | with_reducible rfl)
              (simp only [Act.put, List.setIfInBounds_toArray]); (try simp only [List.set_cons_succ]); (try simp only [List.set_cons_zero])
              refine wpLexP_nil ?_
              go_wp2_with fail
              exact ⟨⟨k + 1, by omega, by go_num, by simp [cntW, hN], by first | exact hbw | exact hbw.drew | exact drewN_below hbw _⟩, by simp only [intOf]; omega⟩
          case true =>
            (exfalso; revert e3; first | (simp; done) | (simp; omega))
      · have hMi : ¬ (k : Int) < (m : Nat) := by omega
        have hMi2 : ((m : Nat) : Int) ≤ k := by omega
        by_cases hN : k < M3
        · have hNi : (k : Int) < (M3 : Nat) := by omega
          go_wp2
          refine wp_region_lexp (Since wr) [false, false, false, false, false, false, false, false, false, false, false, false, false, false, false, false, false, false, false, false, false] (by kernel_rfl) region9_ok (by intro c a d v w h; cases d <;> exact h) (Since.refl wr).drew ?_
          refine wpLexP_pure ?_ ?_ ?_ ?_
          focus exact wanted_none rfl
          rotate_left
          focus (intro wq hq; go_simp; first | done | with_reducible rfl)
          (simp only [Act.put, List.setIfInBounds_toArray]); (try simp only [List.set_cons_succ]); (try simp only [List.set_cons_zero])
          refine wpLexP_pure ?_ ?_ ?_ ?_
          focus exact wanted_none rfl
          rotate_left
          focus (intro wq hq; go_simp; first | done | with_reducible rfl)
          (simp only [Act.put, List.setIfInBounds_toArray]); (try simp only [List.set_cons_succ]); (try simp only [List.set_cons_zero])
          refine wpLexP_pure ?_ ?_ ?_ ?_
          focus exact wanted_none rfl
          rotate_left
          focus (intro wq hq; go_simp; first | done | with_reducible rfl)
          (simp only [Act.put, List.setIfInBounds_toArray]); (try simp only [List.set_cons_succ]); (try simp only [List.set_cons_zero])
          refine wpLexP_pure ?_ ?_ ?_ ?_
          focus exact wanted_none rfl
          rotate_left
          focus (intro wq hq; go_simp; first | done | with_reducible rfl)
          (simp only [Act.put, List.setIfInBounds_toArray]); (try simp only [List.set_cons_succ]); (try simp only [List.set_cons_zero])
          cases e3 : decide (m ≤ k)
          case false =>
            (exfalso; revert e3; first | (simp; done) | (simp; omega))
          case true =>
            try simp only [e3]
            refine wpLexP_pure ?_ ?_ ?_ ?_
            focus exact wanted_none rfl
            rotate_left
            focus (intro wq hq; go_simp; first | done | with_reducible rfl)
            (simp only [Act.put, List.setIfInBounds_toArray]); (try simp only [List.set_cons_succ]); (try simp only [List.set_cons_zero])
            refine wpLexP_skip ?_ ?_
            focus exact unwanted rfl rfl rfl
            (simp only [Act.put, List.setIfInBounds_toArray]); (try simp only [List.set_cons_succ]); (try simp only [List.set_cons_zero])
            refine wpLexP_skip ?_ ?_
            focus exact unwanted rfl rfl rfl
            (simp only [Act.put, List.setIfInBounds_toArray]); (try simp only [List.set_cons_succ]); (try simp only [List.set_cons_zero])
            refine wpLexP_skip ?_ ?_
            focus exact unwanted rfl rfl rfl
            (simp only [Act.put, List.setIfInBounds_toArray]); (try simp only [List.set_cons_succ]); (try simp only [List.set_cons_zero])
            refine wpLexP_skip ?_ ?_
            focus exact unwanted rfl rfl rfl
            (simp only [Act.put, List.setIfInBounds_toArray]); (try simp only [List.set_cons_succ]); (try simp only [List.set_cons_zero])
            refine wpLexP_pure ?_ ?_ ?_ ?_
            focus exact wanted_none rfl
            rotate_left
            focus (intro wq hq; go_simp; first | done | with_reducible rfl)
            (simp only [Act.put, List.setIfInBounds_toArray]); (try simp only [List.set_cons_succ]); (try simp only [List.set_cons_zero])
            refine wpLexP_pure ?_ ?_ ?_ ?_
            focus exact wanted_none rfl
            rotate_left
            focus (intro wq hq; go_simp; first | done | with_reducible rfl)
            (simp only [Act.put, List.setIfInBounds_toArray]); (try simp only [List.set_cons_succ]); (try simp only [List.set_cons_zero])
            refine wpLexP_skip ?_ ?_
            focus exact unwanted rfl rfl rfl
            (simp only [Act.put, List.setIfInBounds_toArray]); (try simp only [List.set_cons_succ]); (try simp only [List.set_cons_zero])
            refine wpLexP_skip ?_ ?_
            focus exact unwanted rfl rfl rfl
            (simp only [Act.put, List.setIfInBounds_toArray]); (try simp only [List.set_cons_succ]); (try simp only [List.set_cons_zero])
            refine wpLexP_skip ?_ ?_
            focus exact unwanted rfl rfl rfl
            (simp only [Act.put, List.setIfInBounds_toArray]); (try simp only [List.set_cons_succ]); (try simp only [List.set_cons_zero])
            refine wpLexP_skip ?_ ?_
            focus exact unwanted rfl rfl rfl
            (simp only [Act.put, List.setIfInBounds_toArray]); (try simp only [List.set_cons_succ]); (try simp only [List.set_cons_zero])
            refine wpLexP_skip ?_ ?_
            focus exact unwanted rfl rfl rfl
            (simp only [Act.put, List.setIfInBounds_toArray]); (try simp only [List.set_cons_succ]); (try simp only [List.set_cons_zero])
            refine wpLexP_skip ?_ ?_
            focus exact unwanted rfl rfl rfl
            (simp only [Act.put, List.setIfInBounds_toArray]); (try simp only [List.set_cons_succ]); (try simp only [List.set_cons_zero])
            refine wpLexP_skip ?_ ?_
            focus exact unwanted rfl rfl rfl
            (simp only [Act.put, List.setIfInBounds_toArray]); (try simp only [List.set_cons_succ]); (try simp only [List.set_cons_zero])
            refine wpLexP_skip ?_ ?_
            focus exact unwanted rfl rfl rfl
            (simp only [Act.put, List.setIfInBounds_toArray]); (try simp only [List.set_cons_succ]); (try simp only [List.set_cons_zero])
            refine wpLexP_skip ?_ ?_
            focus exact unwanted rfl rfl rfl
            (simp only [Act.put, List.setIfInBounds_toArray]); (try simp only [List.set_cons_succ]); (try simp only [List.set_cons_zero])
            refine wpLexP_pure ?_ ?_ ?_ ?_
            focus exact wanted_none rfl
            rotate_left
            focus (intro wq hq; go_simp; first | done | with_reducible rfl)
            (simp only [Act.put, List.setIfInBounds_toArray]); (try simp only [List.set_cons_succ]); (try simp only [List.set_cons_zero])
            refine wpLexP_nil ?_
            go_wp2_with fail
            exact ⟨⟨k + 1, by omega, by go_num, by simp [cntW, hM], by first | exact hbw | exact hbw.drew | exact drewN_below hbw _⟩, by simp only [intOf]; omega⟩
        · have hNi : ¬ (k : Int) < (M3 : Nat) := by omega
          have hke : k = max m M3 := by omega
          have hend : cntW V U m M3 k = max m M3 - min m M3 + cntD V U (min m M3) := by rw [← cnt_end]; congr 1 <;> omega
          generalize hx : cntW V U m M3 k = x at *
          have hm1 := moved_any p q m M3 c c' V U wr hM3 hN3 hp2 hq2
          have hm2 := moved_any q p M3 m c' c U V wr hN3 hM3 hq2 hp2
          have hs0 := rsame_any p q m M3 c c' V U wr hM3 hN3 hp2 hq2
          rw [show max m M3 - min m M3 + cntD V U (min m M3) = x by omega] at hm1
          rw [show max M3 m - min M3 m + cntD U V (min M3 m) = x by rw [Nat.max_comm, Nat.min_comm, ← cntD_swap]; omega] at hm2
          have hs1 : Calls Try.prog 12 #[.slice p m c, .slice q M3 c'] wr fun e w' => e = .returned (.bool ((x : Int) == 0)) ∧ Below wr.heap.size wr w' := hs0.mono fun e w' ⟨r, h1, h2, h3⟩ => by
            refine ⟨?_, h3⟩
            rw [h1]
            have : r = ((x : Int) == 0) := by
              rw [Bool.eq_iff_iff, h2]
              simp only [beq_iff_eq]
              constructor
              · rintro ⟨hmn, h⟩; rw [show min m M3 = m by omega] at hend; omega
              · intro h
                have h0 : x = 0 := by omega
                have hmn : m = M3 := by omega
                refine ⟨by first | exact hmn | trivial, ?_⟩
                have : min m M3 = m := by omega
                rw [this] at hend; omega
            rw [this]
          have Hm1 := Lib.hid hm1
          have Hm2 := Lib.hid hm2
          have Hs1 := Lib.hid hs1
          clear hm1 hm2 hs0 hs1 hp1 hq1 hp2 hq2 hp hq hend hx hle
          go_wp2_with (first
            | (go_at_call 11; first
                | (with_reducible refine Hm1.out.mono ?_; rintro _ w' ⟨rfl, rfl⟩)
                | (with_reducible refine Hm2.out.mono ?_; rintro _ w' ⟨rfl, rfl⟩))
            | (go_at_call 12; refine Hs1.out.mono ?_; rintro _ w1 ⟨rfl, hb1⟩)
            | (go_at_call 13; refine (diff_lives _).mono ?_; rintro _ w2 ⟨rfl, hb2⟩))
          all_goals go_ret
          all_goals first
            | exact ⟨rfl, below_step (below_step hbw hb1) hb2⟩
            | (exfalso; simp_all; done)
  · -- m n
    have hM3 : m ≤ 300 := by omega
    have hN3 : n ≤ 300 := by omega
    have hp1 : IntsAt w p m V := hp
    have hq1 : IntsAt w q n U := hq
    have hMc : m ≤ c := by omega
    have hNc : n ≤ c' := by omega
    skip
    go_loopw [5, 6] (fun nn i wr => ∃ k : Nat, k ≤ max m n ∧ i = .int .i64 k ∧ nn = .int .i64 (cntW V U m n k : Nat) ∧ Below w.heap.size w wr) (fun _ i => fun _ => max m n - (intOf i).toNat)
    case atStart => exact ⟨0, Nat.zero_le _, rfl, rfl, Below.refl _ _⟩
    case round =>
      obtain ⟨k, hk, rfl, rfl, hbw⟩ := hrel
      have hle := cntW_le V U m n k
      have hp2 := hp1.below hbw
      have hq2 := hq1.below hbw
      by_cases hM : k < m
      · have hMi : (k : Int) < (m : Nat) := by omega
        by_cases hN : k < n
        · have hNi : (k : Int) < (n : Nat) := by omega
          obtain ⟨b, o, rfl, h0⟩ := hp2 k hM
          obtain ⟨b2, o2, rfl, h1⟩ := hq2 k hN
          by_cases heq : V k = U k
          · have hd : (V k != U k) = false := by simp [heq]
            go_wp2
            go_quiet (fail)
            go_wp2
            first
              | exact ⟨⟨k + 1, by omega, by go_num, by first | (simp [cntW, heq, hM]; done) | simp [cntW, heq, hM, hN], by first | exact hbw | exact hbw.drew | exact drewN_below hbw _⟩, by simp only [intOf]; omega⟩
              | (go_roundw
                 case rel => exact ⟨k + 1, by omega, by go_num, by first | (simp [cntW, heq, hM]; done) | simp [cntW, heq, hM, hN], by first | exact hbw | exact hbw.drew | exact drewN_below hbw _⟩
                 case measure => simp only [intOf]; omega)
          · have hd : (V k != U k) = true := by simp [heq]
            go_wp2
            go_quiet (fail)
            go_wp2
            first
              | exact ⟨⟨k + 1, by omega, by go_num, by simp [cntW, heq], by first | exact hbw | exact hbw.drew | exact drewN_below hbw _⟩, by simp only [intOf]; omega⟩
              | (go_roundw
                 case rel => exact ⟨k + 1, by omega, by go_num, by simp [cntW, heq], by first | exact hbw | exact hbw.drew | exact drewN_below hbw _⟩
                 case measure => simp only [intOf]; omega)
        · have hNi : ¬ (k : Int) < (n : Nat) := by omega
          go_wp2
          refine wp_region_lexp (Since wr) [false, false, false, false, false, false, false, false, false, false, false, false, false, false, false, false, false, false, false, false, false] (by kernel_rfl) region9_ok (by intro c a d v w h; cases d <;> exact h) (Since.refl wr).drew ?_
          refine wpLexP_pure ?_ ?_ ?_ ?_
          focus exact wanted_none rfl
          rotate_left
          focus (intro wq hq; go_simp; first | done | with_reducible rfl)
          (simp only [Act.put, List.setIfInBounds_toArray]); (try simp only [List.set_cons_succ]); (try simp only [List.set_cons_zero])
          refine wpLexP_pure ?_ ?_ ?_ ?_
          focus exact wanted_none rfl
          rotate_left
          focus (intro wq hq; go_simp; first | done | with_reducible rfl)
          (simp only [Act.put, List.setIfInBounds_toArray]); (try simp only [List.set_cons_succ]); (try simp only [List.set_cons_zero])
          refine wpLexP_pure ?_ ?_ ?_ ?_
          focus exact wanted_none rfl
          rotate_left
          focus (intro wq hq; go_simp; first | done | with_reducible rfl)
          (simp only [Act.put, List.setIfInBounds_toArray]); (try simp only [List.set_cons_succ]); (try simp only [List.set_cons_zero])
          refine wpLexP_pure ?_ ?_ ?_ ?_
          focus exact wanted_none rfl
          rotate_left
          focus (intro wq hq; go_simp; first | done | with_reducible rfl)
          (simp only [Act.put, List.setIfInBounds_toArray]); (try simp only [List.set_cons_succ]); (try simp only [List.set_cons_zero])
          cases e3 : decide (m ≤ k)
          case false =>
            try simp only [e3]
            refine wpLexP_pure ?_ ?_ ?_ ?_
            focus exact wanted_none rfl
            rotate_left
            focus (intro wq hq; go_simp; first | done | with_reducible rfl)
            (simp only [Act.put, List.setIfInBounds_toArray]); (try simp only [List.set_cons_succ]); (try simp only [List.set_cons_zero])
            refine wpLexP_pure ?_ ?_ ?_ ?_
            focus exact wanted_yes rfl rfl
            rotate_left
            focus (intro wq hq; go_simp; first | done | with_reducible rfl)
            (simp only [Act.put, List.setIfInBounds_toArray]); (try simp only [List.set_cons_succ]); (try simp only [List.set_cons_zero])
            refine wpLexP_pure ?_ ?_ ?_ ?_
            focus exact wanted_yes rfl rfl
            rotate_left
            focus (intro wq hq; go_simp; first | done | with_reducible rfl)
            (simp only [Act.put, List.setIfInBounds_toArray]); (try simp only [List.set_cons_succ]); (try simp only [List.set_cons_zero])
            refine wpLexP_pure ?_ ?_ ?_ ?_
            focus exact wanted_yes rfl rfl
            rotate_left
            focus (intro wq hq; go_simp; first | done | with_reducible rfl)
            (simp only [Act.put, List.setIfInBounds_toArray]); (try simp only [List.set_cons_succ]); (try simp only [List.set_cons_zero])
            refine wpLexP_pure ?_ ?_ ?_ ?_
            focus exact wanted_yes rfl rfl
            rotate_left
            focus (intro wq hq; go_simp; first | done | with_reducible rfl)
            (simp only [Act.put, List.setIfInBounds_toArray]); (try simp only [List.set_cons_succ]); (try simp only [List.set_cons_zero])
            cases e8 : decide (n ≤ k)
            case false =>
              (exfalso; revert e8; first | (simp; done) | (simp; omega))
            case true =>
              try simp only [e8]
              refine wpLexP_pure ?_ ?_ ?_ ?_
              focus exact wanted_none rfl
              rotate_left
              focus (intro wq hq; go_simp; first | done | with_reducible rfl)
              (simp only [Act.put, List.setIfInBounds_toArray]); (try simp only [List.set_cons_succ]); (try simp only [List.set_cons_zero])
              refine wpLexP_pure ?_ ?_ ?_ ?_
              focus exact wanted_none rfl
              rotate_left
              focus (intro wq hq; go_simp; first | done | with_reducible rfl)
              (simp only [Act.put, List.setIfInBounds_toArray]); (try simp only [List.set_cons_succ]); (try simp only [List.set_cons_zero])
              refine wpLexP_skip ?_ ?_
              focus exact unwanted rfl rfl rfl
              (simp only [Act.put, List.setIfInBounds_toArray]); (try simp only [List.set_cons_succ]); (try simp only [List.set_cons_zero])
              refine wpLexP_skip ?_ ?_
              focus exact unwanted rfl rfl rfl
              (simp only [Act.put, List.setIfInBounds_toArray]); (try simp only [List.set_cons_succ]); (try simp only [List.set_cons_zero])
              refine wpLexP_skip ?_ ?_
              focus exact unwanted rfl rfl rfl
              (simp only [Act.put, List.setIfInBounds_toArray]); (try simp only [List.set_cons_succ]); (try simp only [List.set_cons_zero])
              refine wpLexP_skip ?_ ?_
              focus exact unwanted rfl rfl rfl
              (simp only [Act.put, List.setIfInBounds_toArray]); (try simp only [List.set_cons_succ]); (try simp only [List.set_cons_zero])
              refine wpLexP_skip ?_ ?_
              focus exact unwanted rfl rfl rfl
              (simp only [Act.put, List.setIfInBounds_toArray]); (try simp only [List.set_cons_succ]); (try simp only [List.set_cons_zero])
              refine wpLexP_skip ?_ ?_
              focus exact unwanted rfl rfl rfl
              (simp only [Act.put, List.setIfInBounds_toArray]); (try simp only [List.set_cons_succ]); (try simp only [List.set_cons_zero])
              refine wpLexP_skip ?_ ?_
              focus exact unwanted rfl rfl rfl
              (simp only [Act.put, List.setIfInBounds_toArray]); (try simp only [List.set_cons_succ]); (try simp only [List.set_cons_zero])
              refine wpLexP_skip ?_ ?_
              focus exact unwanted rfl rfl rfl
              (simp only [Act.put, List.setIfInBounds_toArray]); (try simp only [List.set_cons_succ]); (try simp only [List.set_cons_zero])
              refine wpLexP_skip ?_ ?_
              focus exact unwanted rfl rfl rfl
              (simp only [Act.put, List.setIfInBounds_toArray]); (try simp only [List.set_cons_succ]); (try simp only [List.set_cons_zero])
              refine wpLexP_pure ?_ ?_ ?_ ?_
              focus exact wanted_none rfl
              rotate_left
              focus (intro wq hq; go_simp; first | done | with_reducible rfl)
              (simp only [Act.put, List.setIfInBounds_toArray]); (try simp only [List.set_cons_succ]); (try simp only [List.set_cons_zero])
              refine wpLexP_nil ?_
              go_wp2_with fail
              exact ⟨⟨k + 1, by omega, by go_num, by simp [cntW, hN], by first | exact hbw | exact hbw.drew | exact drewN_below hbw _⟩, by simp only [intOf]; omega⟩
          case true =>
            (exfalso; revert e3; first | (simp; done) | (simp; omega))
      · have hMi : ¬ (k : Int) < (m : Nat) := by omega
        have hMi2 : ((m : Nat) : Int) ≤ k := by omega
        by_cases hN : k < n
        · have hNi : (k : Int) < (n : Nat) := by omega
          go_wp2
          refine wp_region_lexp (Since wr) [false, false, false, false, false, false, false, false, false, false, false, false, false, false, false, false, false, false, false, false, false] (by kernel_rfl) region9_ok (by intro c a d v w h; cases d <;> exact h) (Since.refl wr).drew ?_
          refine wpLexP_pure ?_ ?_ ?_ ?_
          focus exact wanted_none rfl
          rotate_left
          focus (intro wq hq; go_simp; first | done | with_reducible rfl)
          (simp only [Act.put, List.setIfInBounds_toArray]); (try simp only [List.set_cons_succ]); (try simp only [List.set_cons_zero])
          refine wpLexP_pure ?_ ?_ ?_ ?_
          focus exact wanted_none rfl
          rotate_left
          focus (intro wq hq; go_simp; first | done | with_reducible rfl)
          (simp only [Act.put, List.setIfInBounds_toArray]); (try simp only [List.set_cons_succ]); (try simp only [List.set_cons_zero])
          refine wpLexP_pure ?_ ?_ ?_ ?_
          focus exact wanted_none rfl
          rotate_left
          focus (intro wq hq; go_simp; first | done | with_reducible rfl)
          (simp only [Act.put, List.setIfInBounds_toArray]); (try simp only [List.set_cons_succ]); (try simp only [List.set_cons_zero])
          refine wpLexP_pure ?_ ?_ ?_ ?_
          focus exact wanted_none rfl
          rotate_left
          focus (intro wq hq; go_simp; first | done | with_reducible rfl)
          (simp only [Act.put, List.setIfInBounds_toArray]); (try simp only [List.set_cons_succ]); (try simp only [List.set_cons_zero])
          cases e3 : decide (m ≤ k)
          case false =>
            (exfalso; revert e3; first | (simp; done) | (simp; omega))
          case true =>
            try simp only [e3]
            refine wpLexP_pure ?_ ?_ ?_ ?_
            focus exact wanted_none rfl
            rotate_left
            focus (intro wq hq; go_simp; first | done | with_reducible rfl)
            (simp only [Act.put, List.setIfInBounds_toArray]); (try simp only [List.set_cons_succ]); (try simp only [List.set_cons_zero])
            refine wpLexP_skip ?_ ?_
            focus exact unwanted rfl rfl rfl
            (simp only [Act.put, List.setIfInBounds_toArray]); (try simp only [List.set_cons_succ]); (try simp only [List.set_cons_zero])
            refine wpLexP_skip ?_ ?_
            focus exact unwanted rfl rfl rfl
            (simp only [Act.put, List.setIfInBounds_toArray]); (try simp only [List.set_cons_succ]); (try simp only [List.set_cons_zero])
            refine wpLexP_skip ?_ ?_
            focus exact unwanted rfl rfl rfl
            (simp only [Act.put, List.setIfInBounds_toArray]); (try simp only [List.set_cons_succ]); (try simp only [List.set_cons_zero])
            refine wpLexP_skip ?_ ?_
            focus exact unwanted rfl rfl rfl
            (simp only [Act.put, List.setIfInBounds_toArray]); (try simp only [List.set_cons_succ]); (try simp only [List.set_cons_zero])
            refine wpLexP_pure ?_ ?_ ?_ ?_
            focus exact wanted_none rfl
            rotate_left
            focus (intro wq hq; go_simp; first | done | with_reducible rfl)
            (simp only [Act.put, List.setIfInBounds_toArray]); (try simp only [List.set_cons_succ]); (try simp only [List.set_cons_zero])
            refine wpLexP_pure ?_ ?_ ?_ ?_
            focus exact wanted_none rfl
            rotate_left
            focus (intro wq hq; go_simp; first | done | with_reducible rfl)
            (simp only [Act.put, List.setIfInBounds_toArray]); (try simp only [List.set_cons_succ]); (try simp only [List.set_cons_zero])
            refine wpLexP_skip ?_ ?_
            focus exact unwanted rfl rfl rfl
            (simp only [Act.put, List.setIfInBounds_toArray]); (try simp only [List.set_cons_succ]); (try simp only [List.set_cons_zero])
            refine wpLexP_skip ?_ ?_
            focus exact unwanted rfl rfl rfl
            (simp only [Act.put, List.setIfInBounds_toArray]); (try simp only [List.set_cons_succ]); (try simp only [List.set_cons_zero])
            refine wpLexP_skip ?_ ?_
            focus exact unwanted rfl rfl rfl
            (simp only [Act.put, List.setIfInBounds_toArray]); (try simp only [List.set_cons_succ]); (try simp only [List.set_cons_zero])
            refine wpLexP_skip ?_ ?_
            focus exact unwanted rfl rfl rfl
            (simp only [Act.put, List.setIfInBounds_toArray]); (try simp only [List.set_cons_succ]); (try simp only [List.set_cons_zero])
            refine wpLexP_skip ?_ ?_
            focus exact unwanted rfl rfl rfl
            (simp only [Act.put, List.setIfInBounds_toArray]); (try simp only [List.set_cons_succ]); (try simp only [List.set_cons_zero])
            refine wpLexP_skip ?_ ?_
            focus exact unwanted rfl rfl rfl
            (simp only [Act.put, List.setIfInBounds_toArray]); (try simp only [List.set_cons_succ]); (try simp only [List.set_cons_zero])
            refine wpLexP_skip ?_ ?_
            focus exact unwanted rfl rfl rfl
            (simp only [Act.put, List.setIfInBounds_toArray]); (try simp only [List.set_cons_succ]); (try simp only [List.set_cons_zero])
            refine wpLexP_skip ?_ ?_
            focus exact unwanted rfl rfl rfl
            (simp only [Act.put, List.setIfInBounds_toArray]); (try simp only [List.set_cons_succ]); (try simp only [List.set_cons_zero])
            refine wpLexP_skip ?_ ?_
            focus exact unwanted rfl rfl rfl
            (simp only [Act.put, List.setIfInBounds_toArray]); (try simp only [List.set_cons_succ]); (try simp only [List.set_cons_zero])
            refine wpLexP_pure ?_ ?_ ?_ ?_
            focus exact wanted_none rfl
            rotate_left
            focus (intro wq hq; go_simp; first | done | with_reducible rfl)
            (simp only [Act.put, List.setIfInBounds_toArray]); (try simp only [List.set_cons_succ]); (try simp only [List.set_cons_zero])
            refine wpLexP_nil ?_
            go_wp2_with fail
            exact ⟨⟨k + 1, by omega, by go_num, by simp [cntW, hM], by first | exact hbw | exact hbw.drew | exact drewN_below hbw _⟩, by simp only [intOf]; omega⟩
        · have hNi : ¬ (k : Int) < (n : Nat) := by omega
          have hke : k = max m n := by omega
          have hend : cntW V U m n k = max m n - min m n + cntD V U (min m n) := by rw [← cnt_end]; congr 1 <;> omega
          generalize hx : cntW V U m n k = x at *
          have hm1 := moved_any p q m n c c' V U wr hM3 hN3 hp2 hq2
          have hm2 := moved_any q p n m c' c U V wr hN3 hM3 hq2 hp2
          have hs0 := rsame_any p q m n c c' V U wr hM3 hN3 hp2 hq2
          rw [show max m n - min m n + cntD V U (min m n) = x by omega] at hm1
          rw [show max n m - min n m + cntD U V (min n m) = x by rw [Nat.max_comm, Nat.min_comm, ← cntD_swap]; omega] at hm2
          have hs1 : Calls Try.prog 12 #[.slice p m c, .slice q n c'] wr fun e w' => e = .returned (.bool ((x : Int) == 0)) ∧ Below wr.heap.size wr w' := hs0.mono fun e w' ⟨r, h1, h2, h3⟩ => by
            refine ⟨?_, h3⟩
            rw [h1]
            have : r = ((x : Int) == 0) := by
              rw [Bool.eq_iff_iff, h2]
              simp only [beq_iff_eq]
              constructor
              · rintro ⟨hmn, h⟩; rw [show min m n = m by omega] at hend; omega
              · intro h
                have h0 : x = 0 := by omega
                have hmn : m = n := by omega
                refine ⟨by first | exact hmn | trivial, ?_⟩
                have : min m n = m := by omega
                rw [this] at hend; omega
            rw [this]
          have Hm1 := Lib.hid hm1
          have Hm2 := Lib.hid hm2
          have Hs1 := Lib.hid hs1
          clear hm1 hm2 hs0 hs1 hp1 hq1 hp2 hq2 hp hq hend hx hle
          go_wp2_with (first
            | (go_at_call 11; first
                | (with_reducible refine Hm1.out.mono ?_; rintro _ w' ⟨rfl, rfl⟩)
                | (with_reducible refine Hm2.out.mono ?_; rintro _ w' ⟨rfl, rfl⟩))
            | (go_at_call 12; refine Hs1.out.mono ?_; rintro _ w1 ⟨rfl, hb1⟩)
            | (go_at_call 13; refine (diff_lives _).mono ?_; rintro _ w2 ⟨rfl, hb2⟩))
          all_goals go_ret
          all_goals first
            | exact ⟨rfl, below_step (below_step hbw hb1) hb2⟩
            | (exfalso; simp_all; done)

theorem ints_of {H : Type} {enc : TypeId × Value → H} {W : World} {v : Value} {d : DataW H} {p : List MemPlace} (h : DataW.Trod enc Try.prog W 0 (fun _ => true) true 22 v d p) (hone : v.oneCell' = true) :
    ∃ (a : Option Addr) (l c : Nat) (V : Nat → Int), v = .slice a l c ∧ l ≤ c ∧ c ≤ maxLen ∧ IntsAt W a l V := by
  obtain ⟨fuel, hf⟩ := h
  rcases open_ints Try.underlying22 Try.underlying3 (by kernel_rfl) hf with ⟨h1, _⟩ | ⟨a, len, cap, zs, h1, _, hlc, hcm, hzl, _, hcell, _⟩
  · have hv : v = .slice none 0 0 := by
      cases v <;> simp [Value.cells, Value.oneCell'] at h1 hone ⊢ <;> exact h1
    exact ⟨none, 0, 0, fun _ => 0, hv, Nat.le_refl _, by decide, fun i hi => by omega⟩
  · have hv : v = .slice (some a) len cap := by
      cases v <;> simp [Value.cells, Value.oneCell'] at h1 hone ⊢ <;> exact h1
    refine ⟨some a, len, cap, fun i => zs.getD i 0, hv, hlc, hcm, fun i hi => ?_⟩
    have hz : i < zs.length := by rw [hzl]; split <;> omega
    have h2 := hcell i hz
    obtain ⟨b, o, sp⟩ := a
    cases sp with
    | some x =>
      exfalso
      have h3 := hcell 0 (by omega)
      simp only [Addr.add, if_true, World.cell?] at h3
      split at h3 <;> simp at h3
    | none =>
      refine ⟨b, o, rfl, ?_⟩
      by_cases hi0 : i = 0
      · subst hi0; simpa [Addr.add] using h2
      · simpa [Addr.add, hi0] using h2

set_option maxRecDepth 100000 in
theorem dmoved_walk {H : Type} (enc : TypeId × Value → H) (W : World) (base : Nat) (args : Array Value) (ds : List (DataW H)) (p : List MemPlace)
    (hval : ∀ (j : Nat) t v, Try.f3.params[j]? = some t → args[j]? = some v → Value.okWide Try.prog W .any base t v)
    (hA : DataW.TrodAll enc Try.prog W 0 (fun _ => true) true Try.f3.params.toList args.toList ds p) :
    Calls Try.prog 3 args W fun e W' => e = .returned (.bool true) ∧ Below W.heap.size W W' := by
  rw [Try.params3] at hA hval
  obtain ⟨v0, v1, d0, d1, p0, p1, rfl, rfl, rfl, h0, h1⟩ := trodAll_two hA
  have one : ∀ v, Value.okWide Try.prog W .any base 22 v → v.oneCell' = true := fun v h => by
    unfold Value.okWide at h
    rw [Try.underlying22] at h
    exact cell_one h
  obtain ⟨a, l, c, V, rfl, e1, e2, e3⟩ := ints_of h0 (one _ (hval 0 _ v0 rfl rfl))
  obtain ⟨a2, l2, c2, V2, rfl, g1, g2, g3⟩ := ints_of h1 (one _ (hval 1 _ v1 rfl rfl))
  exact dmoved_any a a2 l l2 c c2 V V2 W e1 g1 e2 g2 e3 g3

set_option maxRecDepth 100000 in
theorem diffMoved_lifted (os : Os) (started : os.Started) (H : Type) (enc : TypeId × Value → H) :
    ReturnsInHanded {} Try.checked os 3 .any (Rows.diffMovedSpec.pre6 enc Try.prog Try.f3 [] false) (Rows.diffMovedSpec.post enc Try.prog Try.f3 false true false false) :=
  law_lifted Try.func3 (by kernel_rfl) rfl rfl Try.underlying4 (by kernel_rfl) os started H enc
    (fun ds hds => by match ds, hds with | [_, _], _ => exact ⟨rfl, rfl, rfl⟩)
    (ChangeSpec.witness6 (enc := enc) (C := Try.checked) false ⟨#[], zeroArgs Try.prog Try.f3, []⟩ 8 (by kernel_rfl) (by kernel_rfl) (by kernel_rfl) (by kernel_rfl))
    (dmoved_walk enc)

theorem diffMoved_holds : Rows.DiffMovedSaid :=
  OpenClaim.holds_of_wide 3 Try.f3 rfl rfl rfl rfl rfl rfl rfl ⟨rfl, rfl, rfl, rfl, rfl⟩ rfl rfl rfl rfl rfl (by kernel_rfl) Try.func3 (by kernel_rfl)
    (of_decide_eq_true (by kernel_rfl)) (by unfold Func.isWrapper; first | (rw [if_pos (by decide +kernel)]; kernel_rfl) | (rw [if_neg (by decide +kernel)]; exact ⟨rfl, rfl⟩))
    (fun os started H enc _ => diffMoved_lifted os started H enc)
#print axioms diffMoved_holds
end Go.Proofs.Ytghfefkmmobmgaa
