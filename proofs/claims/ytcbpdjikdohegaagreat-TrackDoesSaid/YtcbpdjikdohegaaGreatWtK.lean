/-
  An alarm is stopped. Conditions: rows not too long.
-/
import Derived.Test.YtcbpdjikdohegaaGreatK5
namespace Go.Proofs.YtcbpdjikdohegaaGreat.V
open Go.RowKit
attribute [local irreducible] Fn FnN OpVC Ob RowFn

def doneR (n : Int) (k : Nat) (R : Nat → List Al) : Nat → List Al := fun j => match Nat.blt j k with
  | true => outOf n (R j)
  | false => R j

set_option maxHeartbeats 8000000 in
theorem stop_vc (F : List (Nat × D)) (now : Int) (R : Nat → List Al) (T U : List Al) (M : List ME) (c : Nat) (o2 : LO) (G : List Nat × Nat) (n : Int) {K : D → St → Prop} (hF : F.all (fun p => cutOk 6 5 p.2) = true) (hG : Nat.ble G.2 5 = true) (ho : ∀ r z n, LOLe r z n o2 o2) (hl : ∀ j, (R j).length ≤ 1000)
    (h0 : mfind n M = none → K (boolD false) ⟨F, WH now R T U M c o2, 53, G⟩)
    (h1 : (mfind n M).isSome = true → K (boolD true) ⟨F, WH now (fun j => outOf n (R j)) T U (mdel n M) c o2, 53, G⟩) :
    CallVC Tryz.prog false 33 [.loc 0 0, intD n] ⟨F, WH now R T U M c o2, 53, G⟩ K := by
  refine toIn 5 [(10, [1000])] Tryz.func33 rfl (by kernel_rfl) (Nat.le_of_ble_eq_true rfl) (by decide) hG rfl hF ?_
  conv => whnf
  refine toIn 54 [] Tryz.func49 rfl (by kernel_rfl) (Nat.le_of_ble_eq_true rfl) (by decide) rfl rfl rfl ?_
  conv => whnf
  refine op_lookup rfl imap_ok rfl rfl rfl ?_
  conv => whnf
  refine ⟨[], [], .tup [intD ((mfind n M).getD 0), boolD (mfind n M).isSome], (53, .cells 3 [intD n]) :: WH now R T U M c o2, 54, ?_, ?_⟩
  · repeat' (first | exact trivial | exact .inl (DLe.refl _) | exact .inl (DLe.nil _ _) | (refine .inr ⟨rfl, _, ?_, rfl⟩; rfl) | exact rfl | exact Nat.zero_le _ | constructor)
    exact ho _ _ _
  conv => whnf
  cases hm : (mfind n M).isSome with
  | false =>
    conv => whnf
    refine ⟨[], [], boolD false, WH now R T U M c o2, 53, ?_, h0 (by simpa using hm)⟩
    repeat' (first | exact trivial | exact .inl (DLe.refl _) | exact .inl (DLe.nil _ _) | (refine .inr ⟨rfl, _, ?_, rfl⟩; rfl) | exact rfl | exact Nat.zero_le _ | constructor)
    exact ho _ _ _
  | true =>
    conv => whnf
    refine ⟨Nat, fun r => ⟨[(17, intD r), (3, .loc 53 0), (0, .loc 0 0)], (53, .cells 3 [intD n]) :: WH now (doneR n (16 * r) R) T U M c o2, 54, (upto 5 0, 5)⟩, fun r => r ≤ 3, fun r => 3 - r, ⟨0, [], [], ?_, by decide⟩, ?_⟩
    · repeat' (first | exact trivial | exact .inl (DLe.refl _) | exact .inl (DLe.nil _ _) | (refine .inr ⟨rfl, _, ?_, rfl⟩; rfl) | exact rfl | exact Nat.zero_le _ | constructor)
      exact ho _ _ _
    · intro r hr
      conv => whnf
      refine Fork.intro (fun g1 => ?_) (fun g1 => ?_)
      · have hlt : (r : Int) < 3 := of_decide_eq_true g1
        conv => whnf
        refine ⟨Nat, fun p => ⟨[(20, intD p), (17, intD r), (7, intD r), (3, .loc 53 0), (0, .loc 0 0)], (53, .cells 3 [intD n]) :: WH now (doneR n (16 * r + p) R) T U M c o2, 54, (upto 5 0, 5)⟩, fun p => p ≤ 16, fun p => 16 - p, ⟨0, [], [], ?_, by decide⟩, ?_⟩
        · repeat' (first | exact trivial | exact .inl (DLe.refl _) | exact .inl (DLe.nil _ _) | (refine .inr ⟨rfl, _, ?_, rfl⟩; rfl) | exact rfl | exact Nat.zero_le _ | constructor)
          exact ho _ _ _
        · intro p hp
          conv => whnf
          refine Fork.intro (fun g2 => ?_) (fun g2 => ?_)
          · have hlt2 : (p : Int) < 16 := of_decide_eq_true g2
            have hr3 : r = 0 ∨ r = 1 ∨ r = 2 := by omega
            have hp16 : p = 0 ∨ p = 1 ∨ p = 2 ∨ p = 3 ∨ p = 4 ∨ p = 5 ∨ p = 6 ∨ p = 7 ∨ p = 8 ∨ p = 9 ∨ p = 10 ∨ p = 11 ∨ p = 12 ∨ p = 13 ∨ p = 14 ∨ p = 15 := by omega
            clear hr hp hlt hlt2 g1 g2
            rcases hr3 with rfl | rfl | rfl
            · rcases hp16 with rfl | rfl | rfl | rfl | rfl | rfl | rfl | rfl | rfl | rfl | rfl | rfl | rfl | rfl | rfl | rfl
              · conv => whnf
                refine ⟨Unit, fun _ => ⟨[(20, intD 0), (17, intD 0), (7, intD 0), (3, .loc 53 0), (0, .loc 0 0)], (53, .cells 3 [intD n]) :: WH now (doneR n 1 R) T U M c o2, 54, (upto 5 0, 5)⟩, ?_, fun _ => ?_⟩
                · conv => whnf
                  repeat (refine ⟨by decide, ?_⟩; conv => whnf)
                  refine ⟨?_, trivial⟩
                  conv => whnf
                  refine ⟨?_, trivial⟩
                  conv => whnf
                  refine CallVC.row (delA_row (R 0) n (hl 0)) rfl rfl (fun _ => rfl) ?_
                  rintro _ rfl
                  conv => whnf
                  repeat (refine ⟨by decide, ?_⟩; conv => whnf)
                  refine ⟨?_, trivial⟩
                  conv => whnf
                  refine ⟨(), [(5, 54)], [], ?_⟩
                  repeat' (first | exact trivial | exact .inl (DLe.refl _) | exact .inl (DLe.nil _ _) | (refine .inr ⟨rfl, _, ?_, rfl⟩; rfl) | exact rfl | exact Nat.zero_le _ | constructor)
                  exact ho _ _ _
                · conv => whnf
                  refine ⟨1, [], [], ?_, by decide, by decide⟩
                  repeat' (first | exact trivial | exact .inl (DLe.refl _) | exact .inl (DLe.nil _ _) | (refine .inr ⟨rfl, _, ?_, rfl⟩; rfl) | exact rfl | exact Nat.zero_le _ | constructor)
                  exact ho _ _ _
              · conv => whnf
                refine ⟨Unit, fun _ => ⟨[(20, intD 1), (17, intD 0), (7, intD 0), (3, .loc 53 0), (0, .loc 0 0)], (53, .cells 3 [intD n]) :: WH now (doneR n 2 R) T U M c o2, 54, (upto 5 0, 5)⟩, ?_, fun _ => ?_⟩
                · conv => whnf
                  repeat (refine ⟨by decide, ?_⟩; conv => whnf)
                  refine ⟨?_, trivial⟩
                  conv => whnf
                  refine ⟨?_, trivial⟩
                  conv => whnf
                  refine CallVC.row (delA_row (R 1) n (hl 1)) rfl rfl (fun _ => rfl) ?_
                  rintro _ rfl
                  conv => whnf
                  repeat (refine ⟨by decide, ?_⟩; conv => whnf)
                  refine ⟨?_, trivial⟩
                  conv => whnf
                  refine ⟨(), [(6, 54)], [], ?_⟩
                  repeat' (first | exact trivial | exact .inl (DLe.refl _) | exact .inl (DLe.nil _ _) | (refine .inr ⟨rfl, _, ?_, rfl⟩; rfl) | exact rfl | exact Nat.zero_le _ | constructor)
                  exact ho _ _ _
                · conv => whnf
                  refine ⟨2, [], [], ?_, by decide, by decide⟩
                  repeat' (first | exact trivial | exact .inl (DLe.refl _) | exact .inl (DLe.nil _ _) | (refine .inr ⟨rfl, _, ?_, rfl⟩; rfl) | exact rfl | exact Nat.zero_le _ | constructor)
                  exact ho _ _ _
              · conv => whnf
                refine ⟨Unit, fun _ => ⟨[(20, intD 2), (17, intD 0), (7, intD 0), (3, .loc 53 0), (0, .loc 0 0)], (53, .cells 3 [intD n]) :: WH now (doneR n 3 R) T U M c o2, 54, (upto 5 0, 5)⟩, ?_, fun _ => ?_⟩
                · conv => whnf
                  repeat (refine ⟨by decide, ?_⟩; conv => whnf)
                  refine ⟨?_, trivial⟩
                  conv => whnf
                  refine ⟨?_, trivial⟩
                  conv => whnf
                  refine CallVC.row (delA_row (R 2) n (hl 2)) rfl rfl (fun _ => rfl) ?_
                  rintro _ rfl
                  conv => whnf
                  repeat (refine ⟨by decide, ?_⟩; conv => whnf)
                  refine ⟨?_, trivial⟩
                  conv => whnf
                  refine ⟨(), [(7, 54)], [], ?_⟩
                  repeat' (first | exact trivial | exact .inl (DLe.refl _) | exact .inl (DLe.nil _ _) | (refine .inr ⟨rfl, _, ?_, rfl⟩; rfl) | exact rfl | exact Nat.zero_le _ | constructor)
                  exact ho _ _ _
                · conv => whnf
                  refine ⟨3, [], [], ?_, by decide, by decide⟩
                  repeat' (first | exact trivial | exact .inl (DLe.refl _) | exact .inl (DLe.nil _ _) | (refine .inr ⟨rfl, _, ?_, rfl⟩; rfl) | exact rfl | exact Nat.zero_le _ | constructor)
                  exact ho _ _ _
              · conv => whnf
                refine ⟨Unit, fun _ => ⟨[(20, intD 3), (17, intD 0), (7, intD 0), (3, .loc 53 0), (0, .loc 0 0)], (53, .cells 3 [intD n]) :: WH now (doneR n 4 R) T U M c o2, 54, (upto 5 0, 5)⟩, ?_, fun _ => ?_⟩
                · conv => whnf
                  repeat (refine ⟨by decide, ?_⟩; conv => whnf)
                  refine ⟨?_, trivial⟩
                  conv => whnf
                  refine ⟨?_, trivial⟩
                  conv => whnf
                  refine CallVC.row (delA_row (R 3) n (hl 3)) rfl rfl (fun _ => rfl) ?_
                  rintro _ rfl
                  conv => whnf
                  repeat (refine ⟨by decide, ?_⟩; conv => whnf)
                  refine ⟨?_, trivial⟩
                  conv => whnf
                  refine ⟨(), [(8, 54)], [], ?_⟩
                  repeat' (first | exact trivial | exact .inl (DLe.refl _) | exact .inl (DLe.nil _ _) | (refine .inr ⟨rfl, _, ?_, rfl⟩; rfl) | exact rfl | exact Nat.zero_le _ | constructor)
                  exact ho _ _ _
                · conv => whnf
                  refine ⟨4, [], [], ?_, by decide, by decide⟩
                  repeat' (first | exact trivial | exact .inl (DLe.refl _) | exact .inl (DLe.nil _ _) | (refine .inr ⟨rfl, _, ?_, rfl⟩; rfl) | exact rfl | exact Nat.zero_le _ | constructor)
                  exact ho _ _ _
              · conv => whnf
                refine ⟨Unit, fun _ => ⟨[(20, intD 4), (17, intD 0), (7, intD 0), (3, .loc 53 0), (0, .loc 0 0)], (53, .cells 3 [intD n]) :: WH now (doneR n 5 R) T U M c o2, 54, (upto 5 0, 5)⟩, ?_, fun _ => ?_⟩
                · conv => whnf
                  repeat (refine ⟨by decide, ?_⟩; conv => whnf)
                  refine ⟨?_, trivial⟩
                  conv => whnf
                  refine ⟨?_, trivial⟩
                  conv => whnf
                  refine CallVC.row (delA_row (R 4) n (hl 4)) rfl rfl (fun _ => rfl) ?_
                  rintro _ rfl
                  conv => whnf
                  repeat (refine ⟨by decide, ?_⟩; conv => whnf)
                  refine ⟨?_, trivial⟩
                  conv => whnf
                  refine ⟨(), [(9, 54)], [], ?_⟩
                  repeat' (first | exact trivial | exact .inl (DLe.refl _) | exact .inl (DLe.nil _ _) | (refine .inr ⟨rfl, _, ?_, rfl⟩; rfl) | exact rfl | exact Nat.zero_le _ | constructor)
                  exact ho _ _ _
                · conv => whnf
                  refine ⟨5, [], [], ?_, by decide, by decide⟩
                  repeat' (first | exact trivial | exact .inl (DLe.refl _) | exact .inl (DLe.nil _ _) | (refine .inr ⟨rfl, _, ?_, rfl⟩; rfl) | exact rfl | exact Nat.zero_le _ | constructor)
                  exact ho _ _ _
              · conv => whnf
                refine ⟨Unit, fun _ => ⟨[(20, intD 5), (17, intD 0), (7, intD 0), (3, .loc 53 0), (0, .loc 0 0)], (53, .cells 3 [intD n]) :: WH now (doneR n 6 R) T U M c o2, 54, (upto 5 0, 5)⟩, ?_, fun _ => ?_⟩
                · conv => whnf
                  repeat (refine ⟨by decide, ?_⟩; conv => whnf)
                  refine ⟨?_, trivial⟩
                  conv => whnf
                  refine ⟨?_, trivial⟩
                  conv => whnf
                  refine CallVC.row (delA_row (R 5) n (hl 5)) rfl rfl (fun _ => rfl) ?_
                  rintro _ rfl
                  conv => whnf
                  repeat (refine ⟨by decide, ?_⟩; conv => whnf)
                  refine ⟨?_, trivial⟩
                  conv => whnf
                  refine ⟨(), [(10, 54)], [], ?_⟩
                  repeat' (first | exact trivial | exact .inl (DLe.refl _) | exact .inl (DLe.nil _ _) | (refine .inr ⟨rfl, _, ?_, rfl⟩; rfl) | exact rfl | exact Nat.zero_le _ | constructor)
                  exact ho _ _ _
                · conv => whnf
                  refine ⟨6, [], [], ?_, by decide, by decide⟩
                  repeat' (first | exact trivial | exact .inl (DLe.refl _) | exact .inl (DLe.nil _ _) | (refine .inr ⟨rfl, _, ?_, rfl⟩; rfl) | exact rfl | exact Nat.zero_le _ | constructor)
                  exact ho _ _ _
              · conv => whnf
                refine ⟨Unit, fun _ => ⟨[(20, intD 6), (17, intD 0), (7, intD 0), (3, .loc 53 0), (0, .loc 0 0)], (53, .cells 3 [intD n]) :: WH now (doneR n 7 R) T U M c o2, 54, (upto 5 0, 5)⟩, ?_, fun _ => ?_⟩
                · conv => whnf
                  repeat (refine ⟨by decide, ?_⟩; conv => whnf)
                  refine ⟨?_, trivial⟩
                  conv => whnf
                  refine ⟨?_, trivial⟩
                  conv => whnf
                  refine CallVC.row (delA_row (R 6) n (hl 6)) rfl rfl (fun _ => rfl) ?_
                  rintro _ rfl
                  conv => whnf
                  repeat (refine ⟨by decide, ?_⟩; conv => whnf)
                  refine ⟨?_, trivial⟩
                  conv => whnf
                  refine ⟨(), [(11, 54)], [], ?_⟩
                  repeat' (first | exact trivial | exact .inl (DLe.refl _) | exact .inl (DLe.nil _ _) | (refine .inr ⟨rfl, _, ?_, rfl⟩; rfl) | exact rfl | exact Nat.zero_le _ | constructor)
                  exact ho _ _ _
                · conv => whnf
                  refine ⟨7, [], [], ?_, by decide, by decide⟩
                  repeat' (first | exact trivial | exact .inl (DLe.refl _) | exact .inl (DLe.nil _ _) | (refine .inr ⟨rfl, _, ?_, rfl⟩; rfl) | exact rfl | exact Nat.zero_le _ | constructor)
                  exact ho _ _ _
              · conv => whnf
                refine ⟨Unit, fun _ => ⟨[(20, intD 7), (17, intD 0), (7, intD 0), (3, .loc 53 0), (0, .loc 0 0)], (53, .cells 3 [intD n]) :: WH now (doneR n 8 R) T U M c o2, 54, (upto 5 0, 5)⟩, ?_, fun _ => ?_⟩
                · conv => whnf
                  repeat (refine ⟨by decide, ?_⟩; conv => whnf)
                  refine ⟨?_, trivial⟩
                  conv => whnf
                  refine ⟨?_, trivial⟩
                  conv => whnf
                  refine CallVC.row (delA_row (R 7) n (hl 7)) rfl rfl (fun _ => rfl) ?_
                  rintro _ rfl
                  conv => whnf
                  repeat (refine ⟨by decide, ?_⟩; conv => whnf)
                  refine ⟨?_, trivial⟩
                  conv => whnf
                  refine ⟨(), [(12, 54)], [], ?_⟩
                  repeat' (first | exact trivial | exact .inl (DLe.refl _) | exact .inl (DLe.nil _ _) | (refine .inr ⟨rfl, _, ?_, rfl⟩; rfl) | exact rfl | exact Nat.zero_le _ | constructor)
                  exact ho _ _ _
                · conv => whnf
                  refine ⟨8, [], [], ?_, by decide, by decide⟩
                  repeat' (first | exact trivial | exact .inl (DLe.refl _) | exact .inl (DLe.nil _ _) | (refine .inr ⟨rfl, _, ?_, rfl⟩; rfl) | exact rfl | exact Nat.zero_le _ | constructor)
                  exact ho _ _ _
              · conv => whnf
                refine ⟨Unit, fun _ => ⟨[(20, intD 8), (17, intD 0), (7, intD 0), (3, .loc 53 0), (0, .loc 0 0)], (53, .cells 3 [intD n]) :: WH now (doneR n 9 R) T U M c o2, 54, (upto 5 0, 5)⟩, ?_, fun _ => ?_⟩
                · conv => whnf
                  repeat (refine ⟨by decide, ?_⟩; conv => whnf)
                  refine ⟨?_, trivial⟩
                  conv => whnf
                  refine ⟨?_, trivial⟩
                  conv => whnf
                  refine CallVC.row (delA_row (R 8) n (hl 8)) rfl rfl (fun _ => rfl) ?_
                  rintro _ rfl
                  conv => whnf
                  repeat (refine ⟨by decide, ?_⟩; conv => whnf)
                  refine ⟨?_, trivial⟩
                  conv => whnf
                  refine ⟨(), [(13, 54)], [], ?_⟩
                  repeat' (first | exact trivial | exact .inl (DLe.refl _) | exact .inl (DLe.nil _ _) | (refine .inr ⟨rfl, _, ?_, rfl⟩; rfl) | exact rfl | exact Nat.zero_le _ | constructor)
                  exact ho _ _ _
                · conv => whnf
                  refine ⟨9, [], [], ?_, by decide, by decide⟩
                  repeat' (first | exact trivial | exact .inl (DLe.refl _) | exact .inl (DLe.nil _ _) | (refine .inr ⟨rfl, _, ?_, rfl⟩; rfl) | exact rfl | exact Nat.zero_le _ | constructor)
                  exact ho _ _ _
              · conv => whnf
                refine ⟨Unit, fun _ => ⟨[(20, intD 9), (17, intD 0), (7, intD 0), (3, .loc 53 0), (0, .loc 0 0)], (53, .cells 3 [intD n]) :: WH now (doneR n 10 R) T U M c o2, 54, (upto 5 0, 5)⟩, ?_, fun _ => ?_⟩
                · conv => whnf
                  repeat (refine ⟨by decide, ?_⟩; conv => whnf)
                  refine ⟨?_, trivial⟩
                  conv => whnf
                  refine ⟨?_, trivial⟩
                  conv => whnf
                  refine CallVC.row (delA_row (R 9) n (hl 9)) rfl rfl (fun _ => rfl) ?_
                  rintro _ rfl
                  conv => whnf
                  repeat (refine ⟨by decide, ?_⟩; conv => whnf)
                  refine ⟨?_, trivial⟩
                  conv => whnf
                  refine ⟨(), [(14, 54)], [], ?_⟩
                  repeat' (first | exact trivial | exact .inl (DLe.refl _) | exact .inl (DLe.nil _ _) | (refine .inr ⟨rfl, _, ?_, rfl⟩; rfl) | exact rfl | exact Nat.zero_le _ | constructor)
                  exact ho _ _ _
                · conv => whnf
                  refine ⟨10, [], [], ?_, by decide, by decide⟩
                  repeat' (first | exact trivial | exact .inl (DLe.refl _) | exact .inl (DLe.nil _ _) | (refine .inr ⟨rfl, _, ?_, rfl⟩; rfl) | exact rfl | exact Nat.zero_le _ | constructor)
                  exact ho _ _ _
              · conv => whnf
                refine ⟨Unit, fun _ => ⟨[(20, intD 10), (17, intD 0), (7, intD 0), (3, .loc 53 0), (0, .loc 0 0)], (53, .cells 3 [intD n]) :: WH now (doneR n 11 R) T U M c o2, 54, (upto 5 0, 5)⟩, ?_, fun _ => ?_⟩
                · conv => whnf
                  repeat (refine ⟨by decide, ?_⟩; conv => whnf)
                  refine ⟨?_, trivial⟩
                  conv => whnf
                  refine ⟨?_, trivial⟩
                  conv => whnf
                  refine CallVC.row (delA_row (R 10) n (hl 10)) rfl rfl (fun _ => rfl) ?_
                  rintro _ rfl
                  conv => whnf
                  repeat (refine ⟨by decide, ?_⟩; conv => whnf)
                  refine ⟨?_, trivial⟩
                  conv => whnf
                  refine ⟨(), [(15, 54)], [], ?_⟩
                  repeat' (first | exact trivial | exact .inl (DLe.refl _) | exact .inl (DLe.nil _ _) | (refine .inr ⟨rfl, _, ?_, rfl⟩; rfl) | exact rfl | exact Nat.zero_le _ | constructor)
                  exact ho _ _ _
                · conv => whnf
                  refine ⟨11, [], [], ?_, by decide, by decide⟩
                  repeat' (first | exact trivial | exact .inl (DLe.refl _) | exact .inl (DLe.nil _ _) | (refine .inr ⟨rfl, _, ?_, rfl⟩; rfl) | exact rfl | exact Nat.zero_le _ | constructor)
                  exact ho _ _ _
              · conv => whnf
                refine ⟨Unit, fun _ => ⟨[(20, intD 11), (17, intD 0), (7, intD 0), (3, .loc 53 0), (0, .loc 0 0)], (53, .cells 3 [intD n]) :: WH now (doneR n 12 R) T U M c o2, 54, (upto 5 0, 5)⟩, ?_, fun _ => ?_⟩
                · conv => whnf
                  repeat (refine ⟨by decide, ?_⟩; conv => whnf)
                  refine ⟨?_, trivial⟩
                  conv => whnf
                  refine ⟨?_, trivial⟩
                  conv => whnf
                  refine CallVC.row (delA_row (R 11) n (hl 11)) rfl rfl (fun _ => rfl) ?_
                  rintro _ rfl
                  conv => whnf
                  repeat (refine ⟨by decide, ?_⟩; conv => whnf)
                  refine ⟨?_, trivial⟩
                  conv => whnf
                  refine ⟨(), [(16, 54)], [], ?_⟩
                  repeat' (first | exact trivial | exact .inl (DLe.refl _) | exact .inl (DLe.nil _ _) | (refine .inr ⟨rfl, _, ?_, rfl⟩; rfl) | exact rfl | exact Nat.zero_le _ | constructor)
                  exact ho _ _ _
                · conv => whnf
                  refine ⟨12, [], [], ?_, by decide, by decide⟩
                  repeat' (first | exact trivial | exact .inl (DLe.refl _) | exact .inl (DLe.nil _ _) | (refine .inr ⟨rfl, _, ?_, rfl⟩; rfl) | exact rfl | exact Nat.zero_le _ | constructor)
                  exact ho _ _ _
              · conv => whnf
                refine ⟨Unit, fun _ => ⟨[(20, intD 12), (17, intD 0), (7, intD 0), (3, .loc 53 0), (0, .loc 0 0)], (53, .cells 3 [intD n]) :: WH now (doneR n 13 R) T U M c o2, 54, (upto 5 0, 5)⟩, ?_, fun _ => ?_⟩
                · conv => whnf
                  repeat (refine ⟨by decide, ?_⟩; conv => whnf)
                  refine ⟨?_, trivial⟩
                  conv => whnf
                  refine ⟨?_, trivial⟩
                  conv => whnf
                  refine CallVC.row (delA_row (R 12) n (hl 12)) rfl rfl (fun _ => rfl) ?_
                  rintro _ rfl
                  conv => whnf
                  repeat (refine ⟨by decide, ?_⟩; conv => whnf)
                  refine ⟨?_, trivial⟩
                  conv => whnf
                  refine ⟨(), [(17, 54)], [], ?_⟩
                  repeat' (first | exact trivial | exact .inl (DLe.refl _) | exact .inl (DLe.nil _ _) | (refine .inr ⟨rfl, _, ?_, rfl⟩; rfl) | exact rfl | exact Nat.zero_le _ | constructor)
                  exact ho _ _ _
                · conv => whnf
                  refine ⟨13, [], [], ?_, by decide, by decide⟩
                  repeat' (first | exact trivial | exact .inl (DLe.refl _) | exact .inl (DLe.nil _ _) | (refine .inr ⟨rfl, _, ?_, rfl⟩; rfl) | exact rfl | exact Nat.zero_le _ | constructor)
                  exact ho _ _ _
              · conv => whnf
                refine ⟨Unit, fun _ => ⟨[(20, intD 13), (17, intD 0), (7, intD 0), (3, .loc 53 0), (0, .loc 0 0)], (53, .cells 3 [intD n]) :: WH now (doneR n 14 R) T U M c o2, 54, (upto 5 0, 5)⟩, ?_, fun _ => ?_⟩
                · conv => whnf
                  repeat (refine ⟨by decide, ?_⟩; conv => whnf)
                  refine ⟨?_, trivial⟩
                  conv => whnf
                  refine ⟨?_, trivial⟩
                  conv => whnf
                  refine CallVC.row (delA_row (R 13) n (hl 13)) rfl rfl (fun _ => rfl) ?_
                  rintro _ rfl
                  conv => whnf
                  repeat (refine ⟨by decide, ?_⟩; conv => whnf)
                  refine ⟨?_, trivial⟩
                  conv => whnf
                  refine ⟨(), [(18, 54)], [], ?_⟩
                  repeat' (first | exact trivial | exact .inl (DLe.refl _) | exact .inl (DLe.nil _ _) | (refine .inr ⟨rfl, _, ?_, rfl⟩; rfl) | exact rfl | exact Nat.zero_le _ | constructor)
                  exact ho _ _ _
                · conv => whnf
                  refine ⟨14, [], [], ?_, by decide, by decide⟩
                  repeat' (first | exact trivial | exact .inl (DLe.refl _) | exact .inl (DLe.nil _ _) | (refine .inr ⟨rfl, _, ?_, rfl⟩; rfl) | exact rfl | exact Nat.zero_le _ | constructor)
                  exact ho _ _ _
              · conv => whnf
                refine ⟨Unit, fun _ => ⟨[(20, intD 14), (17, intD 0), (7, intD 0), (3, .loc 53 0), (0, .loc 0 0)], (53, .cells 3 [intD n]) :: WH now (doneR n 15 R) T U M c o2, 54, (upto 5 0, 5)⟩, ?_, fun _ => ?_⟩
                · conv => whnf
                  repeat (refine ⟨by decide, ?_⟩; conv => whnf)
                  refine ⟨?_, trivial⟩
                  conv => whnf
                  refine ⟨?_, trivial⟩
                  conv => whnf
                  refine CallVC.row (delA_row (R 14) n (hl 14)) rfl rfl (fun _ => rfl) ?_
                  rintro _ rfl
                  conv => whnf
                  repeat (refine ⟨by decide, ?_⟩; conv => whnf)
                  refine ⟨?_, trivial⟩
                  conv => whnf
                  refine ⟨(), [(19, 54)], [], ?_⟩
                  repeat' (first | exact trivial | exact .inl (DLe.refl _) | exact .inl (DLe.nil _ _) | (refine .inr ⟨rfl, _, ?_, rfl⟩; rfl) | exact rfl | exact Nat.zero_le _ | constructor)
                  exact ho _ _ _
                · conv => whnf
                  refine ⟨15, [], [], ?_, by decide, by decide⟩
                  repeat' (first | exact trivial | exact .inl (DLe.refl _) | exact .inl (DLe.nil _ _) | (refine .inr ⟨rfl, _, ?_, rfl⟩; rfl) | exact rfl | exact Nat.zero_le _ | constructor)
                  exact ho _ _ _
              · conv => whnf
                refine ⟨Unit, fun _ => ⟨[(20, intD 15), (17, intD 0), (7, intD 0), (3, .loc 53 0), (0, .loc 0 0)], (53, .cells 3 [intD n]) :: WH now (doneR n 16 R) T U M c o2, 54, (upto 5 0, 5)⟩, ?_, fun _ => ?_⟩
                · conv => whnf
                  repeat (refine ⟨by decide, ?_⟩; conv => whnf)
                  refine ⟨?_, trivial⟩
                  conv => whnf
                  refine ⟨?_, trivial⟩
                  conv => whnf
                  refine CallVC.row (delA_row (R 15) n (hl 15)) rfl rfl (fun _ => rfl) ?_
                  rintro _ rfl
                  conv => whnf
                  repeat (refine ⟨by decide, ?_⟩; conv => whnf)
                  refine ⟨?_, trivial⟩
                  conv => whnf
                  refine ⟨(), [(20, 54)], [], ?_⟩
                  repeat' (first | exact trivial | exact .inl (DLe.refl _) | exact .inl (DLe.nil _ _) | (refine .inr ⟨rfl, _, ?_, rfl⟩; rfl) | exact rfl | exact Nat.zero_le _ | constructor)
                  exact ho _ _ _
                · conv => whnf
                  refine ⟨16, [], [], ?_, by decide, by decide⟩
                  repeat' (first | exact trivial | exact .inl (DLe.refl _) | exact .inl (DLe.nil _ _) | (refine .inr ⟨rfl, _, ?_, rfl⟩; rfl) | exact rfl | exact Nat.zero_le _ | constructor)
                  exact ho _ _ _
            · rcases hp16 with rfl | rfl | rfl | rfl | rfl | rfl | rfl | rfl | rfl | rfl | rfl | rfl | rfl | rfl | rfl | rfl
              · conv => whnf
                refine ⟨Unit, fun _ => ⟨[(20, intD 0), (17, intD 1), (7, intD 1), (3, .loc 53 0), (0, .loc 0 0)], (53, .cells 3 [intD n]) :: WH now (doneR n 17 R) T U M c o2, 54, (upto 5 0, 5)⟩, ?_, fun _ => ?_⟩
                · conv => whnf
                  repeat (refine ⟨by decide, ?_⟩; conv => whnf)
                  refine ⟨?_, trivial⟩
                  conv => whnf
                  refine ⟨?_, trivial⟩
                  conv => whnf
                  refine CallVC.row (delA_row (R 16) n (hl 16)) rfl rfl (fun _ => rfl) ?_
                  rintro _ rfl
                  conv => whnf
                  repeat (refine ⟨by decide, ?_⟩; conv => whnf)
                  refine ⟨?_, trivial⟩
                  conv => whnf
                  refine ⟨(), [(21, 54)], [], ?_⟩
                  repeat' (first | exact trivial | exact .inl (DLe.refl _) | exact .inl (DLe.nil _ _) | (refine .inr ⟨rfl, _, ?_, rfl⟩; rfl) | exact rfl | exact Nat.zero_le _ | constructor)
                  exact ho _ _ _
                · conv => whnf
                  refine ⟨1, [], [], ?_, by decide, by decide⟩
                  repeat' (first | exact trivial | exact .inl (DLe.refl _) | exact .inl (DLe.nil _ _) | (refine .inr ⟨rfl, _, ?_, rfl⟩; rfl) | exact rfl | exact Nat.zero_le _ | constructor)
                  exact ho _ _ _
              · conv => whnf
                refine ⟨Unit, fun _ => ⟨[(20, intD 1), (17, intD 1), (7, intD 1), (3, .loc 53 0), (0, .loc 0 0)], (53, .cells 3 [intD n]) :: WH now (doneR n 18 R) T U M c o2, 54, (upto 5 0, 5)⟩, ?_, fun _ => ?_⟩
                · conv => whnf
                  repeat (refine ⟨by decide, ?_⟩; conv => whnf)
                  refine ⟨?_, trivial⟩
                  conv => whnf
                  refine ⟨?_, trivial⟩
                  conv => whnf
                  refine CallVC.row (delA_row (R 17) n (hl 17)) rfl rfl (fun _ => rfl) ?_
                  rintro _ rfl
                  conv => whnf
                  repeat (refine ⟨by decide, ?_⟩; conv => whnf)
                  refine ⟨?_, trivial⟩
                  conv => whnf
                  refine ⟨(), [(22, 54)], [], ?_⟩
                  repeat' (first | exact trivial | exact .inl (DLe.refl _) | exact .inl (DLe.nil _ _) | (refine .inr ⟨rfl, _, ?_, rfl⟩; rfl) | exact rfl | exact Nat.zero_le _ | constructor)
                  exact ho _ _ _
                · conv => whnf
                  refine ⟨2, [], [], ?_, by decide, by decide⟩
                  repeat' (first | exact trivial | exact .inl (DLe.refl _) | exact .inl (DLe.nil _ _) | (refine .inr ⟨rfl, _, ?_, rfl⟩; rfl) | exact rfl | exact Nat.zero_le _ | constructor)
                  exact ho _ _ _
              · conv => whnf
                refine ⟨Unit, fun _ => ⟨[(20, intD 2), (17, intD 1), (7, intD 1), (3, .loc 53 0), (0, .loc 0 0)], (53, .cells 3 [intD n]) :: WH now (doneR n 19 R) T U M c o2, 54, (upto 5 0, 5)⟩, ?_, fun _ => ?_⟩
                · conv => whnf
                  repeat (refine ⟨by decide, ?_⟩; conv => whnf)
                  refine ⟨?_, trivial⟩
                  conv => whnf
                  refine ⟨?_, trivial⟩
                  conv => whnf
                  refine CallVC.row (delA_row (R 18) n (hl 18)) rfl rfl (fun _ => rfl) ?_
                  rintro _ rfl
                  conv => whnf
                  repeat (refine ⟨by decide, ?_⟩; conv => whnf)
                  refine ⟨?_, trivial⟩
                  conv => whnf
                  refine ⟨(), [(23, 54)], [], ?_⟩
                  repeat' (first | exact trivial | exact .inl (DLe.refl _) | exact .inl (DLe.nil _ _) | (refine .inr ⟨rfl, _, ?_, rfl⟩; rfl) | exact rfl | exact Nat.zero_le _ | constructor)
                  exact ho _ _ _
                · conv => whnf
                  refine ⟨3, [], [], ?_, by decide, by decide⟩
                  repeat' (first | exact trivial | exact .inl (DLe.refl _) | exact .inl (DLe.nil _ _) | (refine .inr ⟨rfl, _, ?_, rfl⟩; rfl) | exact rfl | exact Nat.zero_le _ | constructor)
                  exact ho _ _ _
              · conv => whnf
                refine ⟨Unit, fun _ => ⟨[(20, intD 3), (17, intD 1), (7, intD 1), (3, .loc 53 0), (0, .loc 0 0)], (53, .cells 3 [intD n]) :: WH now (doneR n 20 R) T U M c o2, 54, (upto 5 0, 5)⟩, ?_, fun _ => ?_⟩
                · conv => whnf
                  repeat (refine ⟨by decide, ?_⟩; conv => whnf)
                  refine ⟨?_, trivial⟩
                  conv => whnf
                  refine ⟨?_, trivial⟩
                  conv => whnf
                  refine CallVC.row (delA_row (R 19) n (hl 19)) rfl rfl (fun _ => rfl) ?_
                  rintro _ rfl
                  conv => whnf
                  repeat (refine ⟨by decide, ?_⟩; conv => whnf)
                  refine ⟨?_, trivial⟩
                  conv => whnf
                  refine ⟨(), [(24, 54)], [], ?_⟩
                  repeat' (first | exact trivial | exact .inl (DLe.refl _) | exact .inl (DLe.nil _ _) | (refine .inr ⟨rfl, _, ?_, rfl⟩; rfl) | exact rfl | exact Nat.zero_le _ | constructor)
                  exact ho _ _ _
                · conv => whnf
                  refine ⟨4, [], [], ?_, by decide, by decide⟩
                  repeat' (first | exact trivial | exact .inl (DLe.refl _) | exact .inl (DLe.nil _ _) | (refine .inr ⟨rfl, _, ?_, rfl⟩; rfl) | exact rfl | exact Nat.zero_le _ | constructor)
                  exact ho _ _ _
              · conv => whnf
                refine ⟨Unit, fun _ => ⟨[(20, intD 4), (17, intD 1), (7, intD 1), (3, .loc 53 0), (0, .loc 0 0)], (53, .cells 3 [intD n]) :: WH now (doneR n 21 R) T U M c o2, 54, (upto 5 0, 5)⟩, ?_, fun _ => ?_⟩
                · conv => whnf
                  repeat (refine ⟨by decide, ?_⟩; conv => whnf)
                  refine ⟨?_, trivial⟩
                  conv => whnf
                  refine ⟨?_, trivial⟩
                  conv => whnf
                  refine CallVC.row (delA_row (R 20) n (hl 20)) rfl rfl (fun _ => rfl) ?_
                  rintro _ rfl
                  conv => whnf
                  repeat (refine ⟨by decide, ?_⟩; conv => whnf)
                  refine ⟨?_, trivial⟩
                  conv => whnf
                  refine ⟨(), [(25, 54)], [], ?_⟩
                  repeat' (first | exact trivial | exact .inl (DLe.refl _) | exact .inl (DLe.nil _ _) | (refine .inr ⟨rfl, _, ?_, rfl⟩; rfl) | exact rfl | exact Nat.zero_le _ | constructor)
                  exact ho _ _ _
                · conv => whnf
                  refine ⟨5, [], [], ?_, by decide, by decide⟩
                  repeat' (first | exact trivial | exact .inl (DLe.refl _) | exact .inl (DLe.nil _ _) | (refine .inr ⟨rfl, _, ?_, rfl⟩; rfl) | exact rfl | exact Nat.zero_le _ | constructor)
                  exact ho _ _ _
              · conv => whnf
                refine ⟨Unit, fun _ => ⟨[(20, intD 5), (17, intD 1), (7, intD 1), (3, .loc 53 0), (0, .loc 0 0)], (53, .cells 3 [intD n]) :: WH now (doneR n 22 R) T U M c o2, 54, (upto 5 0, 5)⟩, ?_, fun _ => ?_⟩
                · conv => whnf
                  repeat (refine ⟨by decide, ?_⟩; conv => whnf)
                  refine ⟨?_, trivial⟩
                  conv => whnf
                  refine ⟨?_, trivial⟩
                  conv => whnf
                  refine CallVC.row (delA_row (R 21) n (hl 21)) rfl rfl (fun _ => rfl) ?_
                  rintro _ rfl
                  conv => whnf
                  repeat (refine ⟨by decide, ?_⟩; conv => whnf)
                  refine ⟨?_, trivial⟩
                  conv => whnf
                  refine ⟨(), [(26, 54)], [], ?_⟩
                  repeat' (first | exact trivial | exact .inl (DLe.refl _) | exact .inl (DLe.nil _ _) | (refine .inr ⟨rfl, _, ?_, rfl⟩; rfl) | exact rfl | exact Nat.zero_le _ | constructor)
                  exact ho _ _ _
                · conv => whnf
                  refine ⟨6, [], [], ?_, by decide, by decide⟩
                  repeat' (first | exact trivial | exact .inl (DLe.refl _) | exact .inl (DLe.nil _ _) | (refine .inr ⟨rfl, _, ?_, rfl⟩; rfl) | exact rfl | exact Nat.zero_le _ | constructor)
                  exact ho _ _ _
              · conv => whnf
                refine ⟨Unit, fun _ => ⟨[(20, intD 6), (17, intD 1), (7, intD 1), (3, .loc 53 0), (0, .loc 0 0)], (53, .cells 3 [intD n]) :: WH now (doneR n 23 R) T U M c o2, 54, (upto 5 0, 5)⟩, ?_, fun _ => ?_⟩
                · conv => whnf
                  repeat (refine ⟨by decide, ?_⟩; conv => whnf)
                  refine ⟨?_, trivial⟩
                  conv => whnf
                  refine ⟨?_, trivial⟩
                  conv => whnf
                  refine CallVC.row (delA_row (R 22) n (hl 22)) rfl rfl (fun _ => rfl) ?_
                  rintro _ rfl
                  conv => whnf
                  repeat (refine ⟨by decide, ?_⟩; conv => whnf)
                  refine ⟨?_, trivial⟩
                  conv => whnf
                  refine ⟨(), [(27, 54)], [], ?_⟩
                  repeat' (first | exact trivial | exact .inl (DLe.refl _) | exact .inl (DLe.nil _ _) | (refine .inr ⟨rfl, _, ?_, rfl⟩; rfl) | exact rfl | exact Nat.zero_le _ | constructor)
                  exact ho _ _ _
                · conv => whnf
                  refine ⟨7, [], [], ?_, by decide, by decide⟩
                  repeat' (first | exact trivial | exact .inl (DLe.refl _) | exact .inl (DLe.nil _ _) | (refine .inr ⟨rfl, _, ?_, rfl⟩; rfl) | exact rfl | exact Nat.zero_le _ | constructor)
                  exact ho _ _ _
              · conv => whnf
                refine ⟨Unit, fun _ => ⟨[(20, intD 7), (17, intD 1), (7, intD 1), (3, .loc 53 0), (0, .loc 0 0)], (53, .cells 3 [intD n]) :: WH now (doneR n 24 R) T U M c o2, 54, (upto 5 0, 5)⟩, ?_, fun _ => ?_⟩
                · conv => whnf
                  repeat (refine ⟨by decide, ?_⟩; conv => whnf)
                  refine ⟨?_, trivial⟩
                  conv => whnf
                  refine ⟨?_, trivial⟩
                  conv => whnf
                  refine CallVC.row (delA_row (R 23) n (hl 23)) rfl rfl (fun _ => rfl) ?_
                  rintro _ rfl
                  conv => whnf
                  repeat (refine ⟨by decide, ?_⟩; conv => whnf)
                  refine ⟨?_, trivial⟩
                  conv => whnf
                  refine ⟨(), [(28, 54)], [], ?_⟩
                  repeat' (first | exact trivial | exact .inl (DLe.refl _) | exact .inl (DLe.nil _ _) | (refine .inr ⟨rfl, _, ?_, rfl⟩; rfl) | exact rfl | exact Nat.zero_le _ | constructor)
                  exact ho _ _ _
                · conv => whnf
                  refine ⟨8, [], [], ?_, by decide, by decide⟩
                  repeat' (first | exact trivial | exact .inl (DLe.refl _) | exact .inl (DLe.nil _ _) | (refine .inr ⟨rfl, _, ?_, rfl⟩; rfl) | exact rfl | exact Nat.zero_le _ | constructor)
                  exact ho _ _ _
              · conv => whnf
                refine ⟨Unit, fun _ => ⟨[(20, intD 8), (17, intD 1), (7, intD 1), (3, .loc 53 0), (0, .loc 0 0)], (53, .cells 3 [intD n]) :: WH now (doneR n 25 R) T U M c o2, 54, (upto 5 0, 5)⟩, ?_, fun _ => ?_⟩
                · conv => whnf
                  repeat (refine ⟨by decide, ?_⟩; conv => whnf)
                  refine ⟨?_, trivial⟩
                  conv => whnf
                  refine ⟨?_, trivial⟩
                  conv => whnf
                  refine CallVC.row (delA_row (R 24) n (hl 24)) rfl rfl (fun _ => rfl) ?_
                  rintro _ rfl
                  conv => whnf
                  repeat (refine ⟨by decide, ?_⟩; conv => whnf)
                  refine ⟨?_, trivial⟩
                  conv => whnf
                  refine ⟨(), [(29, 54)], [], ?_⟩
                  repeat' (first | exact trivial | exact .inl (DLe.refl _) | exact .inl (DLe.nil _ _) | (refine .inr ⟨rfl, _, ?_, rfl⟩; rfl) | exact rfl | exact Nat.zero_le _ | constructor)
                  exact ho _ _ _
                · conv => whnf
                  refine ⟨9, [], [], ?_, by decide, by decide⟩
                  repeat' (first | exact trivial | exact .inl (DLe.refl _) | exact .inl (DLe.nil _ _) | (refine .inr ⟨rfl, _, ?_, rfl⟩; rfl) | exact rfl | exact Nat.zero_le _ | constructor)
                  exact ho _ _ _
              · conv => whnf
                refine ⟨Unit, fun _ => ⟨[(20, intD 9), (17, intD 1), (7, intD 1), (3, .loc 53 0), (0, .loc 0 0)], (53, .cells 3 [intD n]) :: WH now (doneR n 26 R) T U M c o2, 54, (upto 5 0, 5)⟩, ?_, fun _ => ?_⟩
                · conv => whnf
                  repeat (refine ⟨by decide, ?_⟩; conv => whnf)
                  refine ⟨?_, trivial⟩
                  conv => whnf
                  refine ⟨?_, trivial⟩
                  conv => whnf
                  refine CallVC.row (delA_row (R 25) n (hl 25)) rfl rfl (fun _ => rfl) ?_
                  rintro _ rfl
                  conv => whnf
                  repeat (refine ⟨by decide, ?_⟩; conv => whnf)
                  refine ⟨?_, trivial⟩
                  conv => whnf
                  refine ⟨(), [(30, 54)], [], ?_⟩
                  repeat' (first | exact trivial | exact .inl (DLe.refl _) | exact .inl (DLe.nil _ _) | (refine .inr ⟨rfl, _, ?_, rfl⟩; rfl) | exact rfl | exact Nat.zero_le _ | constructor)
                  exact ho _ _ _
                · conv => whnf
                  refine ⟨10, [], [], ?_, by decide, by decide⟩
                  repeat' (first | exact trivial | exact .inl (DLe.refl _) | exact .inl (DLe.nil _ _) | (refine .inr ⟨rfl, _, ?_, rfl⟩; rfl) | exact rfl | exact Nat.zero_le _ | constructor)
                  exact ho _ _ _
              · conv => whnf
                refine ⟨Unit, fun _ => ⟨[(20, intD 10), (17, intD 1), (7, intD 1), (3, .loc 53 0), (0, .loc 0 0)], (53, .cells 3 [intD n]) :: WH now (doneR n 27 R) T U M c o2, 54, (upto 5 0, 5)⟩, ?_, fun _ => ?_⟩
                · conv => whnf
                  repeat (refine ⟨by decide, ?_⟩; conv => whnf)
                  refine ⟨?_, trivial⟩
                  conv => whnf
                  refine ⟨?_, trivial⟩
                  conv => whnf
                  refine CallVC.row (delA_row (R 26) n (hl 26)) rfl rfl (fun _ => rfl) ?_
                  rintro _ rfl
                  conv => whnf
                  repeat (refine ⟨by decide, ?_⟩; conv => whnf)
                  refine ⟨?_, trivial⟩
                  conv => whnf
                  refine ⟨(), [(31, 54)], [], ?_⟩
                  repeat' (first | exact trivial | exact .inl (DLe.refl _) | exact .inl (DLe.nil _ _) | (refine .inr ⟨rfl, _, ?_, rfl⟩; rfl) | exact rfl | exact Nat.zero_le _ | constructor)
                  exact ho _ _ _
                · conv => whnf
                  refine ⟨11, [], [], ?_, by decide, by decide⟩
                  repeat' (first | exact trivial | exact .inl (DLe.refl _) | exact .inl (DLe.nil _ _) | (refine .inr ⟨rfl, _, ?_, rfl⟩; rfl) | exact rfl | exact Nat.zero_le _ | constructor)
                  exact ho _ _ _
              · conv => whnf
                refine ⟨Unit, fun _ => ⟨[(20, intD 11), (17, intD 1), (7, intD 1), (3, .loc 53 0), (0, .loc 0 0)], (53, .cells 3 [intD n]) :: WH now (doneR n 28 R) T U M c o2, 54, (upto 5 0, 5)⟩, ?_, fun _ => ?_⟩
                · conv => whnf
                  repeat (refine ⟨by decide, ?_⟩; conv => whnf)
                  refine ⟨?_, trivial⟩
                  conv => whnf
                  refine ⟨?_, trivial⟩
                  conv => whnf
                  refine CallVC.row (delA_row (R 27) n (hl 27)) rfl rfl (fun _ => rfl) ?_
                  rintro _ rfl
                  conv => whnf
                  repeat (refine ⟨by decide, ?_⟩; conv => whnf)
                  refine ⟨?_, trivial⟩
                  conv => whnf
                  refine ⟨(), [(32, 54)], [], ?_⟩
                  repeat' (first | exact trivial | exact .inl (DLe.refl _) | exact .inl (DLe.nil _ _) | (refine .inr ⟨rfl, _, ?_, rfl⟩; rfl) | exact rfl | exact Nat.zero_le _ | constructor)
                  exact ho _ _ _
                · conv => whnf
                  refine ⟨12, [], [], ?_, by decide, by decide⟩
                  repeat' (first | exact trivial | exact .inl (DLe.refl _) | exact .inl (DLe.nil _ _) | (refine .inr ⟨rfl, _, ?_, rfl⟩; rfl) | exact rfl | exact Nat.zero_le _ | constructor)
                  exact ho _ _ _
              · conv => whnf
                refine ⟨Unit, fun _ => ⟨[(20, intD 12), (17, intD 1), (7, intD 1), (3, .loc 53 0), (0, .loc 0 0)], (53, .cells 3 [intD n]) :: WH now (doneR n 29 R) T U M c o2, 54, (upto 5 0, 5)⟩, ?_, fun _ => ?_⟩
                · conv => whnf
                  repeat (refine ⟨by decide, ?_⟩; conv => whnf)
                  refine ⟨?_, trivial⟩
                  conv => whnf
                  refine ⟨?_, trivial⟩
                  conv => whnf
                  refine CallVC.row (delA_row (R 28) n (hl 28)) rfl rfl (fun _ => rfl) ?_
                  rintro _ rfl
                  conv => whnf
                  repeat (refine ⟨by decide, ?_⟩; conv => whnf)
                  refine ⟨?_, trivial⟩
                  conv => whnf
                  refine ⟨(), [(33, 54)], [], ?_⟩
                  repeat' (first | exact trivial | exact .inl (DLe.refl _) | exact .inl (DLe.nil _ _) | (refine .inr ⟨rfl, _, ?_, rfl⟩; rfl) | exact rfl | exact Nat.zero_le _ | constructor)
                  exact ho _ _ _
                · conv => whnf
                  refine ⟨13, [], [], ?_, by decide, by decide⟩
                  repeat' (first | exact trivial | exact .inl (DLe.refl _) | exact .inl (DLe.nil _ _) | (refine .inr ⟨rfl, _, ?_, rfl⟩; rfl) | exact rfl | exact Nat.zero_le _ | constructor)
                  exact ho _ _ _
              · conv => whnf
                refine ⟨Unit, fun _ => ⟨[(20, intD 13), (17, intD 1), (7, intD 1), (3, .loc 53 0), (0, .loc 0 0)], (53, .cells 3 [intD n]) :: WH now (doneR n 30 R) T U M c o2, 54, (upto 5 0, 5)⟩, ?_, fun _ => ?_⟩
                · conv => whnf
                  repeat (refine ⟨by decide, ?_⟩; conv => whnf)
                  refine ⟨?_, trivial⟩
                  conv => whnf
                  refine ⟨?_, trivial⟩
                  conv => whnf
                  refine CallVC.row (delA_row (R 29) n (hl 29)) rfl rfl (fun _ => rfl) ?_
                  rintro _ rfl
                  conv => whnf
                  repeat (refine ⟨by decide, ?_⟩; conv => whnf)
                  refine ⟨?_, trivial⟩
                  conv => whnf
                  refine ⟨(), [(34, 54)], [], ?_⟩
                  repeat' (first | exact trivial | exact .inl (DLe.refl _) | exact .inl (DLe.nil _ _) | (refine .inr ⟨rfl, _, ?_, rfl⟩; rfl) | exact rfl | exact Nat.zero_le _ | constructor)
                  exact ho _ _ _
                · conv => whnf
                  refine ⟨14, [], [], ?_, by decide, by decide⟩
                  repeat' (first | exact trivial | exact .inl (DLe.refl _) | exact .inl (DLe.nil _ _) | (refine .inr ⟨rfl, _, ?_, rfl⟩; rfl) | exact rfl | exact Nat.zero_le _ | constructor)
                  exact ho _ _ _
              · conv => whnf
                refine ⟨Unit, fun _ => ⟨[(20, intD 14), (17, intD 1), (7, intD 1), (3, .loc 53 0), (0, .loc 0 0)], (53, .cells 3 [intD n]) :: WH now (doneR n 31 R) T U M c o2, 54, (upto 5 0, 5)⟩, ?_, fun _ => ?_⟩
                · conv => whnf
                  repeat (refine ⟨by decide, ?_⟩; conv => whnf)
                  refine ⟨?_, trivial⟩
                  conv => whnf
                  refine ⟨?_, trivial⟩
                  conv => whnf
                  refine CallVC.row (delA_row (R 30) n (hl 30)) rfl rfl (fun _ => rfl) ?_
                  rintro _ rfl
                  conv => whnf
                  repeat (refine ⟨by decide, ?_⟩; conv => whnf)
                  refine ⟨?_, trivial⟩
                  conv => whnf
                  refine ⟨(), [(35, 54)], [], ?_⟩
                  repeat' (first | exact trivial | exact .inl (DLe.refl _) | exact .inl (DLe.nil _ _) | (refine .inr ⟨rfl, _, ?_, rfl⟩; rfl) | exact rfl | exact Nat.zero_le _ | constructor)
                  exact ho _ _ _
                · conv => whnf
                  refine ⟨15, [], [], ?_, by decide, by decide⟩
                  repeat' (first | exact trivial | exact .inl (DLe.refl _) | exact .inl (DLe.nil _ _) | (refine .inr ⟨rfl, _, ?_, rfl⟩; rfl) | exact rfl | exact Nat.zero_le _ | constructor)
                  exact ho _ _ _
              · conv => whnf
                refine ⟨Unit, fun _ => ⟨[(20, intD 15), (17, intD 1), (7, intD 1), (3, .loc 53 0), (0, .loc 0 0)], (53, .cells 3 [intD n]) :: WH now (doneR n 32 R) T U M c o2, 54, (upto 5 0, 5)⟩, ?_, fun _ => ?_⟩
                · conv => whnf
                  repeat (refine ⟨by decide, ?_⟩; conv => whnf)
                  refine ⟨?_, trivial⟩
                  conv => whnf
                  refine ⟨?_, trivial⟩
                  conv => whnf
                  refine CallVC.row (delA_row (R 31) n (hl 31)) rfl rfl (fun _ => rfl) ?_
                  rintro _ rfl
                  conv => whnf
                  repeat (refine ⟨by decide, ?_⟩; conv => whnf)
                  refine ⟨?_, trivial⟩
                  conv => whnf
                  refine ⟨(), [(36, 54)], [], ?_⟩
                  repeat' (first | exact trivial | exact .inl (DLe.refl _) | exact .inl (DLe.nil _ _) | (refine .inr ⟨rfl, _, ?_, rfl⟩; rfl) | exact rfl | exact Nat.zero_le _ | constructor)
                  exact ho _ _ _
                · conv => whnf
                  refine ⟨16, [], [], ?_, by decide, by decide⟩
                  repeat' (first | exact trivial | exact .inl (DLe.refl _) | exact .inl (DLe.nil _ _) | (refine .inr ⟨rfl, _, ?_, rfl⟩; rfl) | exact rfl | exact Nat.zero_le _ | constructor)
                  exact ho _ _ _
            · rcases hp16 with rfl | rfl | rfl | rfl | rfl | rfl | rfl | rfl | rfl | rfl | rfl | rfl | rfl | rfl | rfl | rfl
              · conv => whnf
                refine ⟨Unit, fun _ => ⟨[(20, intD 0), (17, intD 2), (7, intD 2), (3, .loc 53 0), (0, .loc 0 0)], (53, .cells 3 [intD n]) :: WH now (doneR n 33 R) T U M c o2, 54, (upto 5 0, 5)⟩, ?_, fun _ => ?_⟩
                · conv => whnf
                  repeat (refine ⟨by decide, ?_⟩; conv => whnf)
                  refine ⟨?_, trivial⟩
                  conv => whnf
                  refine ⟨?_, trivial⟩
                  conv => whnf
                  refine CallVC.row (delA_row (R 32) n (hl 32)) rfl rfl (fun _ => rfl) ?_
                  rintro _ rfl
                  conv => whnf
                  repeat (refine ⟨by decide, ?_⟩; conv => whnf)
                  refine ⟨?_, trivial⟩
                  conv => whnf
                  refine ⟨(), [(37, 54)], [], ?_⟩
                  repeat' (first | exact trivial | exact .inl (DLe.refl _) | exact .inl (DLe.nil _ _) | (refine .inr ⟨rfl, _, ?_, rfl⟩; rfl) | exact rfl | exact Nat.zero_le _ | constructor)
                  exact ho _ _ _
                · conv => whnf
                  refine ⟨1, [], [], ?_, by decide, by decide⟩
                  repeat' (first | exact trivial | exact .inl (DLe.refl _) | exact .inl (DLe.nil _ _) | (refine .inr ⟨rfl, _, ?_, rfl⟩; rfl) | exact rfl | exact Nat.zero_le _ | constructor)
                  exact ho _ _ _
              · conv => whnf
                refine ⟨Unit, fun _ => ⟨[(20, intD 1), (17, intD 2), (7, intD 2), (3, .loc 53 0), (0, .loc 0 0)], (53, .cells 3 [intD n]) :: WH now (doneR n 34 R) T U M c o2, 54, (upto 5 0, 5)⟩, ?_, fun _ => ?_⟩
                · conv => whnf
                  repeat (refine ⟨by decide, ?_⟩; conv => whnf)
                  refine ⟨?_, trivial⟩
                  conv => whnf
                  refine ⟨?_, trivial⟩
                  conv => whnf
                  refine CallVC.row (delA_row (R 33) n (hl 33)) rfl rfl (fun _ => rfl) ?_
                  rintro _ rfl
                  conv => whnf
                  repeat (refine ⟨by decide, ?_⟩; conv => whnf)
                  refine ⟨?_, trivial⟩
                  conv => whnf
                  refine ⟨(), [(38, 54)], [], ?_⟩
                  repeat' (first | exact trivial | exact .inl (DLe.refl _) | exact .inl (DLe.nil _ _) | (refine .inr ⟨rfl, _, ?_, rfl⟩; rfl) | exact rfl | exact Nat.zero_le _ | constructor)
                  exact ho _ _ _
                · conv => whnf
                  refine ⟨2, [], [], ?_, by decide, by decide⟩
                  repeat' (first | exact trivial | exact .inl (DLe.refl _) | exact .inl (DLe.nil _ _) | (refine .inr ⟨rfl, _, ?_, rfl⟩; rfl) | exact rfl | exact Nat.zero_le _ | constructor)
                  exact ho _ _ _
              · conv => whnf
                refine ⟨Unit, fun _ => ⟨[(20, intD 2), (17, intD 2), (7, intD 2), (3, .loc 53 0), (0, .loc 0 0)], (53, .cells 3 [intD n]) :: WH now (doneR n 35 R) T U M c o2, 54, (upto 5 0, 5)⟩, ?_, fun _ => ?_⟩
                · conv => whnf
                  repeat (refine ⟨by decide, ?_⟩; conv => whnf)
                  refine ⟨?_, trivial⟩
                  conv => whnf
                  refine ⟨?_, trivial⟩
                  conv => whnf
                  refine CallVC.row (delA_row (R 34) n (hl 34)) rfl rfl (fun _ => rfl) ?_
                  rintro _ rfl
                  conv => whnf
                  repeat (refine ⟨by decide, ?_⟩; conv => whnf)
                  refine ⟨?_, trivial⟩
                  conv => whnf
                  refine ⟨(), [(39, 54)], [], ?_⟩
                  repeat' (first | exact trivial | exact .inl (DLe.refl _) | exact .inl (DLe.nil _ _) | (refine .inr ⟨rfl, _, ?_, rfl⟩; rfl) | exact rfl | exact Nat.zero_le _ | constructor)
                  exact ho _ _ _
                · conv => whnf
                  refine ⟨3, [], [], ?_, by decide, by decide⟩
                  repeat' (first | exact trivial | exact .inl (DLe.refl _) | exact .inl (DLe.nil _ _) | (refine .inr ⟨rfl, _, ?_, rfl⟩; rfl) | exact rfl | exact Nat.zero_le _ | constructor)
                  exact ho _ _ _
              · conv => whnf
                refine ⟨Unit, fun _ => ⟨[(20, intD 3), (17, intD 2), (7, intD 2), (3, .loc 53 0), (0, .loc 0 0)], (53, .cells 3 [intD n]) :: WH now (doneR n 36 R) T U M c o2, 54, (upto 5 0, 5)⟩, ?_, fun _ => ?_⟩
                · conv => whnf
                  repeat (refine ⟨by decide, ?_⟩; conv => whnf)
                  refine ⟨?_, trivial⟩
                  conv => whnf
                  refine ⟨?_, trivial⟩
                  conv => whnf
                  refine CallVC.row (delA_row (R 35) n (hl 35)) rfl rfl (fun _ => rfl) ?_
                  rintro _ rfl
                  conv => whnf
                  repeat (refine ⟨by decide, ?_⟩; conv => whnf)
                  refine ⟨?_, trivial⟩
                  conv => whnf
                  refine ⟨(), [(40, 54)], [], ?_⟩
                  repeat' (first | exact trivial | exact .inl (DLe.refl _) | exact .inl (DLe.nil _ _) | (refine .inr ⟨rfl, _, ?_, rfl⟩; rfl) | exact rfl | exact Nat.zero_le _ | constructor)
                  exact ho _ _ _
                · conv => whnf
                  refine ⟨4, [], [], ?_, by decide, by decide⟩
                  repeat' (first | exact trivial | exact .inl (DLe.refl _) | exact .inl (DLe.nil _ _) | (refine .inr ⟨rfl, _, ?_, rfl⟩; rfl) | exact rfl | exact Nat.zero_le _ | constructor)
                  exact ho _ _ _
              · conv => whnf
                refine ⟨Unit, fun _ => ⟨[(20, intD 4), (17, intD 2), (7, intD 2), (3, .loc 53 0), (0, .loc 0 0)], (53, .cells 3 [intD n]) :: WH now (doneR n 37 R) T U M c o2, 54, (upto 5 0, 5)⟩, ?_, fun _ => ?_⟩
                · conv => whnf
                  repeat (refine ⟨by decide, ?_⟩; conv => whnf)
                  refine ⟨?_, trivial⟩
                  conv => whnf
                  refine ⟨?_, trivial⟩
                  conv => whnf
                  refine CallVC.row (delA_row (R 36) n (hl 36)) rfl rfl (fun _ => rfl) ?_
                  rintro _ rfl
                  conv => whnf
                  repeat (refine ⟨by decide, ?_⟩; conv => whnf)
                  refine ⟨?_, trivial⟩
                  conv => whnf
                  refine ⟨(), [(41, 54)], [], ?_⟩
                  repeat' (first | exact trivial | exact .inl (DLe.refl _) | exact .inl (DLe.nil _ _) | (refine .inr ⟨rfl, _, ?_, rfl⟩; rfl) | exact rfl | exact Nat.zero_le _ | constructor)
                  exact ho _ _ _
                · conv => whnf
                  refine ⟨5, [], [], ?_, by decide, by decide⟩
                  repeat' (first | exact trivial | exact .inl (DLe.refl _) | exact .inl (DLe.nil _ _) | (refine .inr ⟨rfl, _, ?_, rfl⟩; rfl) | exact rfl | exact Nat.zero_le _ | constructor)
                  exact ho _ _ _
              · conv => whnf
                refine ⟨Unit, fun _ => ⟨[(20, intD 5), (17, intD 2), (7, intD 2), (3, .loc 53 0), (0, .loc 0 0)], (53, .cells 3 [intD n]) :: WH now (doneR n 38 R) T U M c o2, 54, (upto 5 0, 5)⟩, ?_, fun _ => ?_⟩
                · conv => whnf
                  repeat (refine ⟨by decide, ?_⟩; conv => whnf)
                  refine ⟨?_, trivial⟩
                  conv => whnf
                  refine ⟨?_, trivial⟩
                  conv => whnf
                  refine CallVC.row (delA_row (R 37) n (hl 37)) rfl rfl (fun _ => rfl) ?_
                  rintro _ rfl
                  conv => whnf
                  repeat (refine ⟨by decide, ?_⟩; conv => whnf)
                  refine ⟨?_, trivial⟩
                  conv => whnf
                  refine ⟨(), [(42, 54)], [], ?_⟩
                  repeat' (first | exact trivial | exact .inl (DLe.refl _) | exact .inl (DLe.nil _ _) | (refine .inr ⟨rfl, _, ?_, rfl⟩; rfl) | exact rfl | exact Nat.zero_le _ | constructor)
                  exact ho _ _ _
                · conv => whnf
                  refine ⟨6, [], [], ?_, by decide, by decide⟩
                  repeat' (first | exact trivial | exact .inl (DLe.refl _) | exact .inl (DLe.nil _ _) | (refine .inr ⟨rfl, _, ?_, rfl⟩; rfl) | exact rfl | exact Nat.zero_le _ | constructor)
                  exact ho _ _ _
              · conv => whnf
                refine ⟨Unit, fun _ => ⟨[(20, intD 6), (17, intD 2), (7, intD 2), (3, .loc 53 0), (0, .loc 0 0)], (53, .cells 3 [intD n]) :: WH now (doneR n 39 R) T U M c o2, 54, (upto 5 0, 5)⟩, ?_, fun _ => ?_⟩
                · conv => whnf
                  repeat (refine ⟨by decide, ?_⟩; conv => whnf)
                  refine ⟨?_, trivial⟩
                  conv => whnf
                  refine ⟨?_, trivial⟩
                  conv => whnf
                  refine CallVC.row (delA_row (R 38) n (hl 38)) rfl rfl (fun _ => rfl) ?_
                  rintro _ rfl
                  conv => whnf
                  repeat (refine ⟨by decide, ?_⟩; conv => whnf)
                  refine ⟨?_, trivial⟩
                  conv => whnf
                  refine ⟨(), [(43, 54)], [], ?_⟩
                  repeat' (first | exact trivial | exact .inl (DLe.refl _) | exact .inl (DLe.nil _ _) | (refine .inr ⟨rfl, _, ?_, rfl⟩; rfl) | exact rfl | exact Nat.zero_le _ | constructor)
                  exact ho _ _ _
                · conv => whnf
                  refine ⟨7, [], [], ?_, by decide, by decide⟩
                  repeat' (first | exact trivial | exact .inl (DLe.refl _) | exact .inl (DLe.nil _ _) | (refine .inr ⟨rfl, _, ?_, rfl⟩; rfl) | exact rfl | exact Nat.zero_le _ | constructor)
                  exact ho _ _ _
              · conv => whnf
                refine ⟨Unit, fun _ => ⟨[(20, intD 7), (17, intD 2), (7, intD 2), (3, .loc 53 0), (0, .loc 0 0)], (53, .cells 3 [intD n]) :: WH now (doneR n 40 R) T U M c o2, 54, (upto 5 0, 5)⟩, ?_, fun _ => ?_⟩
                · conv => whnf
                  repeat (refine ⟨by decide, ?_⟩; conv => whnf)
                  refine ⟨?_, trivial⟩
                  conv => whnf
                  refine ⟨?_, trivial⟩
                  conv => whnf
                  refine CallVC.row (delA_row (R 39) n (hl 39)) rfl rfl (fun _ => rfl) ?_
                  rintro _ rfl
                  conv => whnf
                  repeat (refine ⟨by decide, ?_⟩; conv => whnf)
                  refine ⟨?_, trivial⟩
                  conv => whnf
                  refine ⟨(), [(44, 54)], [], ?_⟩
                  repeat' (first | exact trivial | exact .inl (DLe.refl _) | exact .inl (DLe.nil _ _) | (refine .inr ⟨rfl, _, ?_, rfl⟩; rfl) | exact rfl | exact Nat.zero_le _ | constructor)
                  exact ho _ _ _
                · conv => whnf
                  refine ⟨8, [], [], ?_, by decide, by decide⟩
                  repeat' (first | exact trivial | exact .inl (DLe.refl _) | exact .inl (DLe.nil _ _) | (refine .inr ⟨rfl, _, ?_, rfl⟩; rfl) | exact rfl | exact Nat.zero_le _ | constructor)
                  exact ho _ _ _
              · conv => whnf
                refine ⟨Unit, fun _ => ⟨[(20, intD 8), (17, intD 2), (7, intD 2), (3, .loc 53 0), (0, .loc 0 0)], (53, .cells 3 [intD n]) :: WH now (doneR n 41 R) T U M c o2, 54, (upto 5 0, 5)⟩, ?_, fun _ => ?_⟩
                · conv => whnf
                  repeat (refine ⟨by decide, ?_⟩; conv => whnf)
                  refine ⟨?_, trivial⟩
                  conv => whnf
                  refine ⟨?_, trivial⟩
                  conv => whnf
                  refine CallVC.row (delA_row (R 40) n (hl 40)) rfl rfl (fun _ => rfl) ?_
                  rintro _ rfl
                  conv => whnf
                  repeat (refine ⟨by decide, ?_⟩; conv => whnf)
                  refine ⟨?_, trivial⟩
                  conv => whnf
                  refine ⟨(), [(45, 54)], [], ?_⟩
                  repeat' (first | exact trivial | exact .inl (DLe.refl _) | exact .inl (DLe.nil _ _) | (refine .inr ⟨rfl, _, ?_, rfl⟩; rfl) | exact rfl | exact Nat.zero_le _ | constructor)
                  exact ho _ _ _
                · conv => whnf
                  refine ⟨9, [], [], ?_, by decide, by decide⟩
                  repeat' (first | exact trivial | exact .inl (DLe.refl _) | exact .inl (DLe.nil _ _) | (refine .inr ⟨rfl, _, ?_, rfl⟩; rfl) | exact rfl | exact Nat.zero_le _ | constructor)
                  exact ho _ _ _
              · conv => whnf
                refine ⟨Unit, fun _ => ⟨[(20, intD 9), (17, intD 2), (7, intD 2), (3, .loc 53 0), (0, .loc 0 0)], (53, .cells 3 [intD n]) :: WH now (doneR n 42 R) T U M c o2, 54, (upto 5 0, 5)⟩, ?_, fun _ => ?_⟩
                · conv => whnf
                  repeat (refine ⟨by decide, ?_⟩; conv => whnf)
                  refine ⟨?_, trivial⟩
                  conv => whnf
                  refine ⟨?_, trivial⟩
                  conv => whnf
                  refine CallVC.row (delA_row (R 41) n (hl 41)) rfl rfl (fun _ => rfl) ?_
                  rintro _ rfl
                  conv => whnf
                  repeat (refine ⟨by decide, ?_⟩; conv => whnf)
                  refine ⟨?_, trivial⟩
                  conv => whnf
                  refine ⟨(), [(46, 54)], [], ?_⟩
                  repeat' (first | exact trivial | exact .inl (DLe.refl _) | exact .inl (DLe.nil _ _) | (refine .inr ⟨rfl, _, ?_, rfl⟩; rfl) | exact rfl | exact Nat.zero_le _ | constructor)
                  exact ho _ _ _
                · conv => whnf
                  refine ⟨10, [], [], ?_, by decide, by decide⟩
                  repeat' (first | exact trivial | exact .inl (DLe.refl _) | exact .inl (DLe.nil _ _) | (refine .inr ⟨rfl, _, ?_, rfl⟩; rfl) | exact rfl | exact Nat.zero_le _ | constructor)
                  exact ho _ _ _
              · conv => whnf
                refine ⟨Unit, fun _ => ⟨[(20, intD 10), (17, intD 2), (7, intD 2), (3, .loc 53 0), (0, .loc 0 0)], (53, .cells 3 [intD n]) :: WH now (doneR n 43 R) T U M c o2, 54, (upto 5 0, 5)⟩, ?_, fun _ => ?_⟩
                · conv => whnf
                  repeat (refine ⟨by decide, ?_⟩; conv => whnf)
                  refine ⟨?_, trivial⟩
                  conv => whnf
                  refine ⟨?_, trivial⟩
                  conv => whnf
                  refine CallVC.row (delA_row (R 42) n (hl 42)) rfl rfl (fun _ => rfl) ?_
                  rintro _ rfl
                  conv => whnf
                  repeat (refine ⟨by decide, ?_⟩; conv => whnf)
                  refine ⟨?_, trivial⟩
                  conv => whnf
                  refine ⟨(), [(47, 54)], [], ?_⟩
                  repeat' (first | exact trivial | exact .inl (DLe.refl _) | exact .inl (DLe.nil _ _) | (refine .inr ⟨rfl, _, ?_, rfl⟩; rfl) | exact rfl | exact Nat.zero_le _ | constructor)
                  exact ho _ _ _
                · conv => whnf
                  refine ⟨11, [], [], ?_, by decide, by decide⟩
                  repeat' (first | exact trivial | exact .inl (DLe.refl _) | exact .inl (DLe.nil _ _) | (refine .inr ⟨rfl, _, ?_, rfl⟩; rfl) | exact rfl | exact Nat.zero_le _ | constructor)
                  exact ho _ _ _
              · conv => whnf
                refine ⟨Unit, fun _ => ⟨[(20, intD 11), (17, intD 2), (7, intD 2), (3, .loc 53 0), (0, .loc 0 0)], (53, .cells 3 [intD n]) :: WH now (doneR n 44 R) T U M c o2, 54, (upto 5 0, 5)⟩, ?_, fun _ => ?_⟩
                · conv => whnf
                  repeat (refine ⟨by decide, ?_⟩; conv => whnf)
                  refine ⟨?_, trivial⟩
                  conv => whnf
                  refine ⟨?_, trivial⟩
                  conv => whnf
                  refine CallVC.row (delA_row (R 43) n (hl 43)) rfl rfl (fun _ => rfl) ?_
                  rintro _ rfl
                  conv => whnf
                  repeat (refine ⟨by decide, ?_⟩; conv => whnf)
                  refine ⟨?_, trivial⟩
                  conv => whnf
                  refine ⟨(), [(48, 54)], [], ?_⟩
                  repeat' (first | exact trivial | exact .inl (DLe.refl _) | exact .inl (DLe.nil _ _) | (refine .inr ⟨rfl, _, ?_, rfl⟩; rfl) | exact rfl | exact Nat.zero_le _ | constructor)
                  exact ho _ _ _
                · conv => whnf
                  refine ⟨12, [], [], ?_, by decide, by decide⟩
                  repeat' (first | exact trivial | exact .inl (DLe.refl _) | exact .inl (DLe.nil _ _) | (refine .inr ⟨rfl, _, ?_, rfl⟩; rfl) | exact rfl | exact Nat.zero_le _ | constructor)
                  exact ho _ _ _
              · conv => whnf
                refine ⟨Unit, fun _ => ⟨[(20, intD 12), (17, intD 2), (7, intD 2), (3, .loc 53 0), (0, .loc 0 0)], (53, .cells 3 [intD n]) :: WH now (doneR n 45 R) T U M c o2, 54, (upto 5 0, 5)⟩, ?_, fun _ => ?_⟩
                · conv => whnf
                  repeat (refine ⟨by decide, ?_⟩; conv => whnf)
                  refine ⟨?_, trivial⟩
                  conv => whnf
                  refine ⟨?_, trivial⟩
                  conv => whnf
                  refine CallVC.row (delA_row (R 44) n (hl 44)) rfl rfl (fun _ => rfl) ?_
                  rintro _ rfl
                  conv => whnf
                  repeat (refine ⟨by decide, ?_⟩; conv => whnf)
                  refine ⟨?_, trivial⟩
                  conv => whnf
                  refine ⟨(), [(49, 54)], [], ?_⟩
                  repeat' (first | exact trivial | exact .inl (DLe.refl _) | exact .inl (DLe.nil _ _) | (refine .inr ⟨rfl, _, ?_, rfl⟩; rfl) | exact rfl | exact Nat.zero_le _ | constructor)
                  exact ho _ _ _
                · conv => whnf
                  refine ⟨13, [], [], ?_, by decide, by decide⟩
                  repeat' (first | exact trivial | exact .inl (DLe.refl _) | exact .inl (DLe.nil _ _) | (refine .inr ⟨rfl, _, ?_, rfl⟩; rfl) | exact rfl | exact Nat.zero_le _ | constructor)
                  exact ho _ _ _
              · conv => whnf
                refine ⟨Unit, fun _ => ⟨[(20, intD 13), (17, intD 2), (7, intD 2), (3, .loc 53 0), (0, .loc 0 0)], (53, .cells 3 [intD n]) :: WH now (doneR n 46 R) T U M c o2, 54, (upto 5 0, 5)⟩, ?_, fun _ => ?_⟩
                · conv => whnf
                  repeat (refine ⟨by decide, ?_⟩; conv => whnf)
                  refine ⟨?_, trivial⟩
                  conv => whnf
                  refine ⟨?_, trivial⟩
                  conv => whnf
                  refine CallVC.row (delA_row (R 45) n (hl 45)) rfl rfl (fun _ => rfl) ?_
                  rintro _ rfl
                  conv => whnf
                  repeat (refine ⟨by decide, ?_⟩; conv => whnf)
                  refine ⟨?_, trivial⟩
                  conv => whnf
                  refine ⟨(), [(50, 54)], [], ?_⟩
                  repeat' (first | exact trivial | exact .inl (DLe.refl _) | exact .inl (DLe.nil _ _) | (refine .inr ⟨rfl, _, ?_, rfl⟩; rfl) | exact rfl | exact Nat.zero_le _ | constructor)
                  exact ho _ _ _
                · conv => whnf
                  refine ⟨14, [], [], ?_, by decide, by decide⟩
                  repeat' (first | exact trivial | exact .inl (DLe.refl _) | exact .inl (DLe.nil _ _) | (refine .inr ⟨rfl, _, ?_, rfl⟩; rfl) | exact rfl | exact Nat.zero_le _ | constructor)
                  exact ho _ _ _
              · conv => whnf
                refine ⟨Unit, fun _ => ⟨[(20, intD 14), (17, intD 2), (7, intD 2), (3, .loc 53 0), (0, .loc 0 0)], (53, .cells 3 [intD n]) :: WH now (doneR n 47 R) T U M c o2, 54, (upto 5 0, 5)⟩, ?_, fun _ => ?_⟩
                · conv => whnf
                  repeat (refine ⟨by decide, ?_⟩; conv => whnf)
                  refine ⟨?_, trivial⟩
                  conv => whnf
                  refine ⟨?_, trivial⟩
                  conv => whnf
                  refine CallVC.row (delA_row (R 46) n (hl 46)) rfl rfl (fun _ => rfl) ?_
                  rintro _ rfl
                  conv => whnf
                  repeat (refine ⟨by decide, ?_⟩; conv => whnf)
                  refine ⟨?_, trivial⟩
                  conv => whnf
                  refine ⟨(), [(51, 54)], [], ?_⟩
                  repeat' (first | exact trivial | exact .inl (DLe.refl _) | exact .inl (DLe.nil _ _) | (refine .inr ⟨rfl, _, ?_, rfl⟩; rfl) | exact rfl | exact Nat.zero_le _ | constructor)
                  exact ho _ _ _
                · conv => whnf
                  refine ⟨15, [], [], ?_, by decide, by decide⟩
                  repeat' (first | exact trivial | exact .inl (DLe.refl _) | exact .inl (DLe.nil _ _) | (refine .inr ⟨rfl, _, ?_, rfl⟩; rfl) | exact rfl | exact Nat.zero_le _ | constructor)
                  exact ho _ _ _
              · conv => whnf
                refine ⟨Unit, fun _ => ⟨[(20, intD 15), (17, intD 2), (7, intD 2), (3, .loc 53 0), (0, .loc 0 0)], (53, .cells 3 [intD n]) :: WH now (doneR n 48 R) T U M c o2, 54, (upto 5 0, 5)⟩, ?_, fun _ => ?_⟩
                · conv => whnf
                  repeat (refine ⟨by decide, ?_⟩; conv => whnf)
                  refine ⟨?_, trivial⟩
                  conv => whnf
                  refine ⟨?_, trivial⟩
                  conv => whnf
                  refine CallVC.row (delA_row (R 47) n (hl 47)) rfl rfl (fun _ => rfl) ?_
                  rintro _ rfl
                  conv => whnf
                  repeat (refine ⟨by decide, ?_⟩; conv => whnf)
                  refine ⟨?_, trivial⟩
                  conv => whnf
                  refine ⟨(), [(52, 54)], [], ?_⟩
                  repeat' (first | exact trivial | exact .inl (DLe.refl _) | exact .inl (DLe.nil _ _) | (refine .inr ⟨rfl, _, ?_, rfl⟩; rfl) | exact rfl | exact Nat.zero_le _ | constructor)
                  exact ho _ _ _
                · conv => whnf
                  refine ⟨16, [], [], ?_, by decide, by decide⟩
                  repeat' (first | exact trivial | exact .inl (DLe.refl _) | exact .inl (DLe.nil _ _) | (refine .inr ⟨rfl, _, ?_, rfl⟩; rfl) | exact rfl | exact Nat.zero_le _ | constructor)
                  exact ho _ _ _
          · have hge : ¬ (p : Int) < 16 := of_decide_eq_false g2
            obtain rfl : p = 16 := by omega
            conv => whnf
            rw [wrap_next (show r < 5 by omega) (by omega)]
            refine ⟨r + 1, [], [], ?_, by omega, by show 3 - (r + 1) < 3 - r; omega⟩
            show Cover _ _ _ ⟨_, _ :: WH now (doneR n (16 * (r + 1)) R) _ _ _ _ _, _, _⟩
            rw [show 16 * (r + 1) = 16 * r + 16 by omega]
            repeat' (first | exact trivial | exact .inl (DLe.refl _) | exact .inl (DLe.nil _ _) | (refine .inr ⟨rfl, _, ?_, rfl⟩; rfl) | exact rfl | exact Nat.zero_le _ | constructor)
            exact ho _ _ _
      · have hge : ¬ (r : Int) < 3 := of_decide_eq_false g1
        obtain rfl : r = 3 := by omega
        conv => whnf
        refine op_delete rfl imap_ok rfl rfl rfl ?_
        conv => whnf
        refine ⟨[], [], boolD true, WH now (fun j => outOf n (R j)) T U (mdel n M) c o2, 53, ?_, h1 hm⟩
        repeat' (first | exact trivial | exact .inl (DLe.refl _) | exact .inl (DLe.nil _ _) | (refine .inr ⟨rfl, _, ?_, rfl⟩; rfl) | exact rfl | exact Nat.zero_le _ | constructor)
        exact ho _ _ _
end Go.Proofs.YtcbpdjikdohegaaGreat.V
