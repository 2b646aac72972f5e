/-
  The law TrackDoes, by value. Condition: the flows' numbers are of their kinds. (Printed by gen_rc.py.)
-/
import Derived.Test.YtcbpdjikdohegaaGreatRvK
namespace Go.Proofs.YtcbpdjikdohegaaGreat.V
open Go.RowKit
attribute [local irreducible] Fn FnN OpVC Ob RowFn ObS NewS

structure DL where
  k : Nat
  S : List En
  now : Int
  F : Nat → Prop
structure DLI (l : List Tde) (N : Nat) (g : DL) : Prop where
  k1 : g.k ≤ l.length
  k2 : g.k ≤ 60
  s : SOk N g.now g.S
  len : g.S.length ≤ g.k
  n0 : 0 ≤ g.now
  n1 : g.now ≤ 1073741824 + 4095 * (g.k : Int)

set_option maxHeartbeats 40000000 in
theorem does23_fn (n0 lo hi now0 : Int) (l : List Tde) (hl : ∀ x, x ∈ l → TdOk x) : Fn Tryz.prog 3 [intD n0, .agg [u64D lo, u64D hi], intD now0, rowsT l] fun d => d = boolD true := by
  refine fnOf [(2, [0, 1, 2, 3, 5, 6, 7, 8, 4, 9, 10]), (12, [1000]), (15, [1000]), (18, [1000]), (9, [1000]), (22, [0, 1, 2, 3, 4, 5, 6, 7, 8, 9, 10, 11, 12, 13, 14, 15, 16, 17, 18, 19, 20, 21, 22, 23, 24, 25, 26, 27, 28, 30, 31, 32, 33, 29, 34, 35, 36, 37, 39, 40, 41, 42, 43, 38, 44, 45, 46, 47, 49, 50, 51, 52, 48, 53, 54, 55, 56, 57, 58, 59, 60, 62, 63, 64, 65, 61, 66, 67, 68, 69])] Tryz.func3 rfl (by kernel_rfl) (Nat.le_of_ble_eq_true rfl) ?_
  have hnew := tnew lo hi n0 now0
  have hr1 := in256_fn n0
  have hr2 := in_fn now0 0 1073741824
  change Fn _ _ _ (fun d => d = intD (newN now0)) at hr2
  obtain ⟨hm0, hm1⟩ := newN_in now0
  generalize slN n0 = N at *
  generalize newN now0 = nw at *
  conv => whnf
  refine CallVC.news hnew rfl ?_
  rintro _ F0 rfl
  conv => whnf
  refine goIn [] Tryz.func5 rfl (by kernel_rfl) (Nat.le_of_ble_eq_true rfl) ?_
  conv => whnf
  refine CallVC.pure hr1 rfl ?_
  rintro _ rfl
  conv => whnf
  refine CallVC.pure hr2 rfl ?_
  rintro _ rfl
  conv => whnf
  refine CallVC.look (tsize_sp lo hi N [] nw) rfl ?_
  rintro _ rfl
  conv => whnf
  rw [show (!decide ((N : Int) = N)) = false by simp]
  conv => whnf
  refine ⟨DL, fun g => ⟨[(11, intD g.k), (10, .loc 1 0), (9, .loc 0 0), (3, rowsT l)], [(0, .obj (.sep g.F (trA lo hi N g.S g.now))), (1, .cells 33 [intD N, intD g.now, .grow 2]), (2, .grow En 39 13 enD g.S)], 3, ([], 0)⟩, DLI l N, fun g => l.length - g.k, ⟨⟨0, [], nw, F0⟩, [(0, 1), (1, 2), (2, 70)], [2], ?_, ⟨Nat.zero_le _, Nat.zero_le _, ⟨.nil, (fun _ h => by cases h), (fun _ h => by cases h), Nat.zero_le _⟩, Nat.le_refl _, hm0, by show nw ≤ 1073741824 + 4095 * (0 : Int); omega⟩⟩, ?_⟩
  · repeat' (first | exact trivial | exact .inl (DLe.refl _) | exact .inl (DLe.nil _ _) | (refine .inr ⟨rfl, _, ?_, rfl⟩; rfl) | exact rfl | exact Nat.zero_le _ | constructor)
  rintro ⟨k, S, now, F⟩ ⟨hk1, hk2, hS, hSl, hp0, hp1⟩
  dsimp only at hk1 hk2 hS hSl hp0 hp1
  conv => whnf
  cases g1 : decide ((k : Int) < l.length) with
  | false =>
    conv => whnf
    refine CallVC.pure lives23_fn rfl ?_
    rintro _ rfl
    conv => whnf
  | true =>
  have hlt := of_decide_eq_true g1
  conv => whnf
  cases g2 : decide ((k : Int) < 60) with
  | false =>
    conv => whnf
    refine CallVC.pure lives23_fn rfl ?_
    rintro _ rfl
    conv => whnf
  | true =>
  have hlt60 := of_decide_eq_true g2
  obtain ⟨x, hx⟩ : ∃ x, l[k]? = some x := ⟨l[k]'(by omega), List.getElem?_eq_getElem _⟩
  have hxo : FlOk x.e.f := (hl x (List.mem_of_getElem? hx)).f
  have hwk : IntKind.i64.wrap ((k : Int) + 1) = ((k + 1 : Nat) : Int) := wrap_next (show k < 100 by omega) (by omega)
  conv => whnf
  refine ⟨rfl, ⟨by omega, hlt⟩, each_one hx ?_⟩
  conv => whnf
  cases c0 : decide (x.kind = 0) with
  | true =>
    conv => whnf
    have hd1 := tadd_obs lo hi N S now x.e x.n hxo (by omega) (by omega)
    obtain ⟨hS1, a2, _, _⟩ := hS.add x.n hxo hp0
    generalize hr : addS N S now x.e x.n = r at *
    obtain ⟨r, S1⟩ := r
    dsimp only at hS1 a2 hd1
    refine ⟨Nat → Prop, fun F1 => ⟨[(74, boolD (!decide (r = r))), (12, .loc 2 0), (11, intD k), (10, .loc 1 0), (9, .loc 0 0), (3, rowsT l)], rcH (.obj (.sep F1 (trA lo hi N S1 now))) x N now S1, 4, ([], 0)⟩, ?_, fun F1 => ?_⟩
    · conv => whnf
      refine ⟨?_, ?_, ?_, ?_, trivial⟩
      · conv => whnf
        refine ⟨?_, ?_, ?_, trivial⟩
        · conv => whnf
          refine ⟨?_, ?_, ?_, trivial⟩
          · conv => whnf
            refine CallVC.obs hd1 rfl rfl ?_
            rintro _ _ F1 ⟨rfl, rfl⟩
            refine ⟨?_, ?_, trivial⟩
            · conv => whnf
              refine ⟨?_, trivial⟩
              · conv => whnf
                refine ⟨?_, trivial⟩
                · conv => whnf
                  refine CallVC.cov (args1 := [.loc 1 0, .agg (enD x.e), intD x.n]) [(2, 3), (3, 2)] [] ⟨[(67, intD r), (12, .loc 2 0), (11, intD k), (10, .loc 1 0), (9, .loc 0 0), (3, rowsT l)], rcH (.obj (.sep F1 (trA lo hi N S1 now))) x N now S, 4, ([], 0)⟩ ?_ ?_ (radd_vc _ _ _ x N now S x.e x.n (by omega) ⟨hp0, by omega⟩ hxo hS.fl rfl rfl (fun _ _ _ => rfl) fun r' S' hr' => ?_)
                  · repeat' (first | exact trivial | exact .inl (DLe.refl _) | exact .inl (DLe.nil _ _) | (refine .inr ⟨rfl, _, ?_, rfl⟩; rfl) | exact rfl | exact Nat.zero_le _ | constructor)
                  · repeat' (first | exact trivial | exact .inl (DLe.refl _) | exact .inl (DLe.nil _ _) | (refine .inr ⟨rfl, _, ?_, rfl⟩; rfl) | exact rfl | exact Nat.zero_le _ | constructor)
                  obtain ⟨rfl, rfl⟩ : r = r' ∧ S1 = S' := by rw [hr] at hr'; exact ⟨congrArg Prod.fst hr', congrArg Prod.snd hr'⟩
                  conv => whnf
                  refine ⟨F1, [], [], ?_⟩
                  repeat' (first | exact trivial | exact .inl (DLe.refl _) | exact .inl (DLe.nil _ _) | (refine .inr ⟨rfl, _, ?_, rfl⟩; rfl) | exact rfl | exact Nat.zero_le _ | constructor)
            · conv => whnf
              refine ⟨?_, trivial⟩
              · conv => whnf
                refine ⟨?_, trivial⟩
                · conv => whnf
                  refine CallVC.cov (args1 := [.loc 1 0, .agg (enD x.e), intD x.n]) [(2, 3), (3, 2)] [] ⟨[(67, intD r), (12, .loc 2 0), (11, intD k), (10, .loc 1 0), (9, .loc 0 0), (3, rowsT l)], rcH (.obj (.sep F1 (trA lo hi N S1 now))) x N now S, 4, ([], 0)⟩ ?_ ?_ (radd_vc _ _ _ x N now S x.e x.n (by omega) ⟨hp0, by omega⟩ hxo hS.fl rfl rfl (fun _ _ _ => rfl) fun r' S' hr' => ?_)
                  · repeat' (first | exact trivial | exact .inl (DLe.refl _) | exact .inl (DLe.nil _ _) | (refine .inr ⟨rfl, _, ?_, rfl⟩; rfl) | exact rfl | exact Nat.zero_le _ | constructor)
                  · repeat' (first | exact trivial | exact .inl (DLe.refl _) | exact .inl (DLe.nil _ _) | (refine .inr ⟨rfl, _, ?_, rfl⟩; rfl) | exact rfl | exact Nat.zero_le _ | constructor)
                  obtain ⟨rfl, rfl⟩ : r = r' ∧ S1 = S' := by rw [hr] at hr'; exact ⟨congrArg Prod.fst hr', congrArg Prod.snd hr'⟩
                  conv => whnf
                  refine ⟨F1, [], [], ?_⟩
                  repeat' (first | exact trivial | exact .inl (DLe.refl _) | exact .inl (DLe.nil _ _) | (refine .inr ⟨rfl, _, ?_, rfl⟩; rfl) | exact rfl | exact Nat.zero_le _ | constructor)
          · conv => whnf
            refine ⟨?_, ?_, trivial⟩
            · conv => whnf
              refine CallVC.obs hd1 rfl rfl ?_
              rintro _ _ F1 ⟨rfl, rfl⟩
              refine ⟨?_, trivial⟩
              · conv => whnf
                refine ⟨?_, trivial⟩
                · conv => whnf
                  refine CallVC.cov (args1 := [.loc 1 0, .agg (enD x.e), intD x.n]) [(2, 3), (3, 2)] [] ⟨[(67, intD r), (12, .loc 2 0), (11, intD k), (10, .loc 1 0), (9, .loc 0 0), (3, rowsT l)], rcH (.obj (.sep F1 (trA lo hi N S1 now))) x N now S, 4, ([], 0)⟩ ?_ ?_ (radd_vc _ _ _ x N now S x.e x.n (by omega) ⟨hp0, by omega⟩ hxo hS.fl rfl rfl (fun _ _ _ => rfl) fun r' S' hr' => ?_)
                  · repeat' (first | exact trivial | exact .inl (DLe.refl _) | exact .inl (DLe.nil _ _) | (refine .inr ⟨rfl, _, ?_, rfl⟩; rfl) | exact rfl | exact Nat.zero_le _ | constructor)
                  · repeat' (first | exact trivial | exact .inl (DLe.refl _) | exact .inl (DLe.nil _ _) | (refine .inr ⟨rfl, _, ?_, rfl⟩; rfl) | exact rfl | exact Nat.zero_le _ | constructor)
                  obtain ⟨rfl, rfl⟩ : r = r' ∧ S1 = S' := by rw [hr] at hr'; exact ⟨congrArg Prod.fst hr', congrArg Prod.snd hr'⟩
                  conv => whnf
                  refine ⟨F1, [], [], ?_⟩
                  repeat' (first | exact trivial | exact .inl (DLe.refl _) | exact .inl (DLe.nil _ _) | (refine .inr ⟨rfl, _, ?_, rfl⟩; rfl) | exact rfl | exact Nat.zero_le _ | constructor)
            · conv => whnf
              refine ⟨?_, trivial⟩
              · conv => whnf
                refine CallVC.obs hd1 rfl rfl ?_
                rintro _ _ F1 ⟨rfl, rfl⟩
                refine ⟨?_, trivial⟩
                · conv => whnf
                  refine CallVC.cov (args1 := [.loc 1 0, .agg (enD x.e), intD x.n]) [(2, 3), (3, 2)] [] ⟨[(67, intD r), (12, .loc 2 0), (11, intD k), (10, .loc 1 0), (9, .loc 0 0), (3, rowsT l)], rcH (.obj (.sep F1 (trA lo hi N S1 now))) x N now S, 4, ([], 0)⟩ ?_ ?_ (radd_vc _ _ _ x N now S x.e x.n (by omega) ⟨hp0, by omega⟩ hxo hS.fl rfl rfl (fun _ _ _ => rfl) fun r' S' hr' => ?_)
                  · repeat' (first | exact trivial | exact .inl (DLe.refl _) | exact .inl (DLe.nil _ _) | (refine .inr ⟨rfl, _, ?_, rfl⟩; rfl) | exact rfl | exact Nat.zero_le _ | constructor)
                  · repeat' (first | exact trivial | exact .inl (DLe.refl _) | exact .inl (DLe.nil _ _) | (refine .inr ⟨rfl, _, ?_, rfl⟩; rfl) | exact rfl | exact Nat.zero_le _ | constructor)
                  obtain ⟨rfl, rfl⟩ : r = r' ∧ S1 = S' := by rw [hr] at hr'; exact ⟨congrArg Prod.fst hr', congrArg Prod.snd hr'⟩
                  conv => whnf
                  refine ⟨F1, [], [], ?_⟩
                  repeat' (first | exact trivial | exact .inl (DLe.refl _) | exact .inl (DLe.nil _ _) | (refine .inr ⟨rfl, _, ?_, rfl⟩; rfl) | exact rfl | exact Nat.zero_le _ | constructor)
          · conv => whnf
            refine ⟨?_, ?_, trivial⟩
            · conv => whnf
              refine CallVC.obs hd1 rfl rfl ?_
              rintro _ _ F1 ⟨rfl, rfl⟩
              refine ⟨?_, trivial⟩
              · conv => whnf
                refine ⟨?_, trivial⟩
                · conv => whnf
                  refine CallVC.cov (args1 := [.loc 1 0, .agg (enD x.e), intD x.n]) [(2, 3), (3, 2)] [] ⟨[(67, intD r), (12, .loc 2 0), (11, intD k), (10, .loc 1 0), (9, .loc 0 0), (3, rowsT l)], rcH (.obj (.sep F1 (trA lo hi N S1 now))) x N now S, 4, ([], 0)⟩ ?_ ?_ (radd_vc _ _ _ x N now S x.e x.n (by omega) ⟨hp0, by omega⟩ hxo hS.fl rfl rfl (fun _ _ _ => rfl) fun r' S' hr' => ?_)
                  · repeat' (first | exact trivial | exact .inl (DLe.refl _) | exact .inl (DLe.nil _ _) | (refine .inr ⟨rfl, _, ?_, rfl⟩; rfl) | exact rfl | exact Nat.zero_le _ | constructor)
                  · repeat' (first | exact trivial | exact .inl (DLe.refl _) | exact .inl (DLe.nil _ _) | (refine .inr ⟨rfl, _, ?_, rfl⟩; rfl) | exact rfl | exact Nat.zero_le _ | constructor)
                  obtain ⟨rfl, rfl⟩ : r = r' ∧ S1 = S' := by rw [hr] at hr'; exact ⟨congrArg Prod.fst hr', congrArg Prod.snd hr'⟩
                  conv => whnf
                  refine ⟨F1, [], [], ?_⟩
                  repeat' (first | exact trivial | exact .inl (DLe.refl _) | exact .inl (DLe.nil _ _) | (refine .inr ⟨rfl, _, ?_, rfl⟩; rfl) | exact rfl | exact Nat.zero_le _ | constructor)
            · conv => whnf
              refine ⟨?_, trivial⟩
              · conv => whnf
                refine CallVC.obs hd1 rfl rfl ?_
                rintro _ _ F1 ⟨rfl, rfl⟩
                refine ⟨?_, trivial⟩
                · conv => whnf
                  refine CallVC.cov (args1 := [.loc 1 0, .agg (enD x.e), intD x.n]) [(2, 3), (3, 2)] [] ⟨[(67, intD r), (12, .loc 2 0), (11, intD k), (10, .loc 1 0), (9, .loc 0 0), (3, rowsT l)], rcH (.obj (.sep F1 (trA lo hi N S1 now))) x N now S, 4, ([], 0)⟩ ?_ ?_ (radd_vc _ _ _ x N now S x.e x.n (by omega) ⟨hp0, by omega⟩ hxo hS.fl rfl rfl (fun _ _ _ => rfl) fun r' S' hr' => ?_)
                  · repeat' (first | exact trivial | exact .inl (DLe.refl _) | exact .inl (DLe.nil _ _) | (refine .inr ⟨rfl, _, ?_, rfl⟩; rfl) | exact rfl | exact Nat.zero_le _ | constructor)
                  · repeat' (first | exact trivial | exact .inl (DLe.refl _) | exact .inl (DLe.nil _ _) | (refine .inr ⟨rfl, _, ?_, rfl⟩; rfl) | exact rfl | exact Nat.zero_le _ | constructor)
                  obtain ⟨rfl, rfl⟩ : r = r' ∧ S1 = S' := by rw [hr] at hr'; exact ⟨congrArg Prod.fst hr', congrArg Prod.snd hr'⟩
                  conv => whnf
                  refine ⟨F1, [], [], ?_⟩
                  repeat' (first | exact trivial | exact .inl (DLe.refl _) | exact .inl (DLe.nil _ _) | (refine .inr ⟨rfl, _, ?_, rfl⟩; rfl) | exact rfl | exact Nat.zero_le _ | constructor)
        · conv => whnf
          refine ⟨?_, ?_, trivial⟩
          · conv => whnf
            refine ⟨?_, ?_, trivial⟩
            · conv => whnf
              refine CallVC.obs hd1 rfl rfl ?_
              rintro _ _ F1 ⟨rfl, rfl⟩
              refine ⟨?_, trivial⟩
              · conv => whnf
                refine ⟨?_, trivial⟩
                · conv => whnf
                  refine CallVC.cov (args1 := [.loc 1 0, .agg (enD x.e), intD x.n]) [(2, 3), (3, 2)] [] ⟨[(67, intD r), (12, .loc 2 0), (11, intD k), (10, .loc 1 0), (9, .loc 0 0), (3, rowsT l)], rcH (.obj (.sep F1 (trA lo hi N S1 now))) x N now S, 4, ([], 0)⟩ ?_ ?_ (radd_vc _ _ _ x N now S x.e x.n (by omega) ⟨hp0, by omega⟩ hxo hS.fl rfl rfl (fun _ _ _ => rfl) fun r' S' hr' => ?_)
                  · repeat' (first | exact trivial | exact .inl (DLe.refl _) | exact .inl (DLe.nil _ _) | (refine .inr ⟨rfl, _, ?_, rfl⟩; rfl) | exact rfl | exact Nat.zero_le _ | constructor)
                  · repeat' (first | exact trivial | exact .inl (DLe.refl _) | exact .inl (DLe.nil _ _) | (refine .inr ⟨rfl, _, ?_, rfl⟩; rfl) | exact rfl | exact Nat.zero_le _ | constructor)
                  obtain ⟨rfl, rfl⟩ : r = r' ∧ S1 = S' := by rw [hr] at hr'; exact ⟨congrArg Prod.fst hr', congrArg Prod.snd hr'⟩
                  conv => whnf
                  refine ⟨F1, [], [], ?_⟩
                  repeat' (first | exact trivial | exact .inl (DLe.refl _) | exact .inl (DLe.nil _ _) | (refine .inr ⟨rfl, _, ?_, rfl⟩; rfl) | exact rfl | exact Nat.zero_le _ | constructor)
            · conv => whnf
              refine ⟨?_, trivial⟩
              · conv => whnf
                refine CallVC.obs hd1 rfl rfl ?_
                rintro _ _ F1 ⟨rfl, rfl⟩
                refine ⟨?_, trivial⟩
                · conv => whnf
                  refine CallVC.cov (args1 := [.loc 1 0, .agg (enD x.e), intD x.n]) [(2, 3), (3, 2)] [] ⟨[(67, intD r), (12, .loc 2 0), (11, intD k), (10, .loc 1 0), (9, .loc 0 0), (3, rowsT l)], rcH (.obj (.sep F1 (trA lo hi N S1 now))) x N now S, 4, ([], 0)⟩ ?_ ?_ (radd_vc _ _ _ x N now S x.e x.n (by omega) ⟨hp0, by omega⟩ hxo hS.fl rfl rfl (fun _ _ _ => rfl) fun r' S' hr' => ?_)
                  · repeat' (first | exact trivial | exact .inl (DLe.refl _) | exact .inl (DLe.nil _ _) | (refine .inr ⟨rfl, _, ?_, rfl⟩; rfl) | exact rfl | exact Nat.zero_le _ | constructor)
                  · repeat' (first | exact trivial | exact .inl (DLe.refl _) | exact .inl (DLe.nil _ _) | (refine .inr ⟨rfl, _, ?_, rfl⟩; rfl) | exact rfl | exact Nat.zero_le _ | constructor)
                  obtain ⟨rfl, rfl⟩ : r = r' ∧ S1 = S' := by rw [hr] at hr'; exact ⟨congrArg Prod.fst hr', congrArg Prod.snd hr'⟩
                  conv => whnf
                  refine ⟨F1, [], [], ?_⟩
                  repeat' (first | exact trivial | exact .inl (DLe.refl _) | exact .inl (DLe.nil _ _) | (refine .inr ⟨rfl, _, ?_, rfl⟩; rfl) | exact rfl | exact Nat.zero_le _ | constructor)
          · conv => whnf
            refine ⟨?_, trivial⟩
            · conv => whnf
              refine ⟨?_, trivial⟩
              · conv => whnf
                refine CallVC.obs hd1 rfl rfl ?_
                rintro _ _ F1 ⟨rfl, rfl⟩
                refine ⟨?_, trivial⟩
                · conv => whnf
                  refine CallVC.cov (args1 := [.loc 1 0, .agg (enD x.e), intD x.n]) [(2, 3), (3, 2)] [] ⟨[(67, intD r), (12, .loc 2 0), (11, intD k), (10, .loc 1 0), (9, .loc 0 0), (3, rowsT l)], rcH (.obj (.sep F1 (trA lo hi N S1 now))) x N now S, 4, ([], 0)⟩ ?_ ?_ (radd_vc _ _ _ x N now S x.e x.n (by omega) ⟨hp0, by omega⟩ hxo hS.fl rfl rfl (fun _ _ _ => rfl) fun r' S' hr' => ?_)
                  · repeat' (first | exact trivial | exact .inl (DLe.refl _) | exact .inl (DLe.nil _ _) | (refine .inr ⟨rfl, _, ?_, rfl⟩; rfl) | exact rfl | exact Nat.zero_le _ | constructor)
                  · repeat' (first | exact trivial | exact .inl (DLe.refl _) | exact .inl (DLe.nil _ _) | (refine .inr ⟨rfl, _, ?_, rfl⟩; rfl) | exact rfl | exact Nat.zero_le _ | constructor)
                  obtain ⟨rfl, rfl⟩ : r = r' ∧ S1 = S' := by rw [hr] at hr'; exact ⟨congrArg Prod.fst hr', congrArg Prod.snd hr'⟩
                  conv => whnf
                  refine ⟨F1, [], [], ?_⟩
                  repeat' (first | exact trivial | exact .inl (DLe.refl _) | exact .inl (DLe.nil _ _) | (refine .inr ⟨rfl, _, ?_, rfl⟩; rfl) | exact rfl | exact Nat.zero_le _ | constructor)
        · conv => whnf
          refine ⟨?_, ?_, trivial⟩
          · conv => whnf
            refine ⟨?_, ?_, trivial⟩
            · conv => whnf
              refine CallVC.obs hd1 rfl rfl ?_
              rintro _ _ F1 ⟨rfl, rfl⟩
              refine ⟨?_, trivial⟩
              · conv => whnf
                refine ⟨?_, trivial⟩
                · conv => whnf
                  refine CallVC.cov (args1 := [.loc 1 0, .agg (enD x.e), intD x.n]) [(2, 3), (3, 2)] [] ⟨[(67, intD r), (12, .loc 2 0), (11, intD k), (10, .loc 1 0), (9, .loc 0 0), (3, rowsT l)], rcH (.obj (.sep F1 (trA lo hi N S1 now))) x N now S, 4, ([], 0)⟩ ?_ ?_ (radd_vc _ _ _ x N now S x.e x.n (by omega) ⟨hp0, by omega⟩ hxo hS.fl rfl rfl (fun _ _ _ => rfl) fun r' S' hr' => ?_)
                  · repeat' (first | exact trivial | exact .inl (DLe.refl _) | exact .inl (DLe.nil _ _) | (refine .inr ⟨rfl, _, ?_, rfl⟩; rfl) | exact rfl | exact Nat.zero_le _ | constructor)
                  · repeat' (first | exact trivial | exact .inl (DLe.refl _) | exact .inl (DLe.nil _ _) | (refine .inr ⟨rfl, _, ?_, rfl⟩; rfl) | exact rfl | exact Nat.zero_le _ | constructor)
                  obtain ⟨rfl, rfl⟩ : r = r' ∧ S1 = S' := by rw [hr] at hr'; exact ⟨congrArg Prod.fst hr', congrArg Prod.snd hr'⟩
                  conv => whnf
                  refine ⟨F1, [], [], ?_⟩
                  repeat' (first | exact trivial | exact .inl (DLe.refl _) | exact .inl (DLe.nil _ _) | (refine .inr ⟨rfl, _, ?_, rfl⟩; rfl) | exact rfl | exact Nat.zero_le _ | constructor)
            · conv => whnf
              refine ⟨?_, trivial⟩
              · conv => whnf
                refine CallVC.obs hd1 rfl rfl ?_
                rintro _ _ F1 ⟨rfl, rfl⟩
                refine ⟨?_, trivial⟩
                · conv => whnf
                  refine CallVC.cov (args1 := [.loc 1 0, .agg (enD x.e), intD x.n]) [(2, 3), (3, 2)] [] ⟨[(67, intD r), (12, .loc 2 0), (11, intD k), (10, .loc 1 0), (9, .loc 0 0), (3, rowsT l)], rcH (.obj (.sep F1 (trA lo hi N S1 now))) x N now S, 4, ([], 0)⟩ ?_ ?_ (radd_vc _ _ _ x N now S x.e x.n (by omega) ⟨hp0, by omega⟩ hxo hS.fl rfl rfl (fun _ _ _ => rfl) fun r' S' hr' => ?_)
                  · repeat' (first | exact trivial | exact .inl (DLe.refl _) | exact .inl (DLe.nil _ _) | (refine .inr ⟨rfl, _, ?_, rfl⟩; rfl) | exact rfl | exact Nat.zero_le _ | constructor)
                  · repeat' (first | exact trivial | exact .inl (DLe.refl _) | exact .inl (DLe.nil _ _) | (refine .inr ⟨rfl, _, ?_, rfl⟩; rfl) | exact rfl | exact Nat.zero_le _ | constructor)
                  obtain ⟨rfl, rfl⟩ : r = r' ∧ S1 = S' := by rw [hr] at hr'; exact ⟨congrArg Prod.fst hr', congrArg Prod.snd hr'⟩
                  conv => whnf
                  refine ⟨F1, [], [], ?_⟩
                  repeat' (first | exact trivial | exact .inl (DLe.refl _) | exact .inl (DLe.nil _ _) | (refine .inr ⟨rfl, _, ?_, rfl⟩; rfl) | exact rfl | exact Nat.zero_le _ | constructor)
          · conv => whnf
            refine ⟨?_, trivial⟩
            · conv => whnf
              refine ⟨?_, trivial⟩
              · conv => whnf
                refine CallVC.obs hd1 rfl rfl ?_
                rintro _ _ F1 ⟨rfl, rfl⟩
                refine ⟨?_, trivial⟩
                · conv => whnf
                  refine CallVC.cov (args1 := [.loc 1 0, .agg (enD x.e), intD x.n]) [(2, 3), (3, 2)] [] ⟨[(67, intD r), (12, .loc 2 0), (11, intD k), (10, .loc 1 0), (9, .loc 0 0), (3, rowsT l)], rcH (.obj (.sep F1 (trA lo hi N S1 now))) x N now S, 4, ([], 0)⟩ ?_ ?_ (radd_vc _ _ _ x N now S x.e x.n (by omega) ⟨hp0, by omega⟩ hxo hS.fl rfl rfl (fun _ _ _ => rfl) fun r' S' hr' => ?_)
                  · repeat' (first | exact trivial | exact .inl (DLe.refl _) | exact .inl (DLe.nil _ _) | (refine .inr ⟨rfl, _, ?_, rfl⟩; rfl) | exact rfl | exact Nat.zero_le _ | constructor)
                  · repeat' (first | exact trivial | exact .inl (DLe.refl _) | exact .inl (DLe.nil _ _) | (refine .inr ⟨rfl, _, ?_, rfl⟩; rfl) | exact rfl | exact Nat.zero_le _ | constructor)
                  obtain ⟨rfl, rfl⟩ : r = r' ∧ S1 = S' := by rw [hr] at hr'; exact ⟨congrArg Prod.fst hr', congrArg Prod.snd hr'⟩
                  conv => whnf
                  refine ⟨F1, [], [], ?_⟩
                  repeat' (first | exact trivial | exact .inl (DLe.refl _) | exact .inl (DLe.nil _ _) | (refine .inr ⟨rfl, _, ?_, rfl⟩; rfl) | exact rfl | exact Nat.zero_le _ | constructor)
      · conv => whnf
        refine ⟨?_, ?_, ?_, trivial⟩
        · conv => whnf
          refine ⟨?_, ?_, ?_, trivial⟩
          · conv => whnf
            refine CallVC.obs hd1 rfl rfl ?_
            rintro _ _ F1 ⟨rfl, rfl⟩
            refine ⟨?_, ?_, trivial⟩
            · conv => whnf
              refine ⟨?_, trivial⟩
              · conv => whnf
                refine ⟨?_, trivial⟩
                · conv => whnf
                  refine CallVC.cov (args1 := [.loc 1 0, .agg (enD x.e), intD x.n]) [(2, 3), (3, 2)] [] ⟨[(67, intD r), (12, .loc 2 0), (11, intD k), (10, .loc 1 0), (9, .loc 0 0), (3, rowsT l)], rcH (.obj (.sep F1 (trA lo hi N S1 now))) x N now S, 4, ([], 0)⟩ ?_ ?_ (radd_vc _ _ _ x N now S x.e x.n (by omega) ⟨hp0, by omega⟩ hxo hS.fl rfl rfl (fun _ _ _ => rfl) fun r' S' hr' => ?_)
                  · repeat' (first | exact trivial | exact .inl (DLe.refl _) | exact .inl (DLe.nil _ _) | (refine .inr ⟨rfl, _, ?_, rfl⟩; rfl) | exact rfl | exact Nat.zero_le _ | constructor)
                  · repeat' (first | exact trivial | exact .inl (DLe.refl _) | exact .inl (DLe.nil _ _) | (refine .inr ⟨rfl, _, ?_, rfl⟩; rfl) | exact rfl | exact Nat.zero_le _ | constructor)
                  obtain ⟨rfl, rfl⟩ : r = r' ∧ S1 = S' := by rw [hr] at hr'; exact ⟨congrArg Prod.fst hr', congrArg Prod.snd hr'⟩
                  conv => whnf
                  refine ⟨F1, [], [], ?_⟩
                  repeat' (first | exact trivial | exact .inl (DLe.refl _) | exact .inl (DLe.nil _ _) | (refine .inr ⟨rfl, _, ?_, rfl⟩; rfl) | exact rfl | exact Nat.zero_le _ | constructor)
            · conv => whnf
              refine ⟨?_, trivial⟩
              · conv => whnf
                refine ⟨?_, trivial⟩
                · conv => whnf
                  refine CallVC.cov (args1 := [.loc 1 0, .agg (enD x.e), intD x.n]) [(2, 3), (3, 2)] [] ⟨[(67, intD r), (12, .loc 2 0), (11, intD k), (10, .loc 1 0), (9, .loc 0 0), (3, rowsT l)], rcH (.obj (.sep F1 (trA lo hi N S1 now))) x N now S, 4, ([], 0)⟩ ?_ ?_ (radd_vc _ _ _ x N now S x.e x.n (by omega) ⟨hp0, by omega⟩ hxo hS.fl rfl rfl (fun _ _ _ => rfl) fun r' S' hr' => ?_)
                  · repeat' (first | exact trivial | exact .inl (DLe.refl _) | exact .inl (DLe.nil _ _) | (refine .inr ⟨rfl, _, ?_, rfl⟩; rfl) | exact rfl | exact Nat.zero_le _ | constructor)
                  · repeat' (first | exact trivial | exact .inl (DLe.refl _) | exact .inl (DLe.nil _ _) | (refine .inr ⟨rfl, _, ?_, rfl⟩; rfl) | exact rfl | exact Nat.zero_le _ | constructor)
                  obtain ⟨rfl, rfl⟩ : r = r' ∧ S1 = S' := by rw [hr] at hr'; exact ⟨congrArg Prod.fst hr', congrArg Prod.snd hr'⟩
                  conv => whnf
                  refine ⟨F1, [], [], ?_⟩
                  repeat' (first | exact trivial | exact .inl (DLe.refl _) | exact .inl (DLe.nil _ _) | (refine .inr ⟨rfl, _, ?_, rfl⟩; rfl) | exact rfl | exact Nat.zero_le _ | constructor)
          · conv => whnf
            refine ⟨?_, ?_, trivial⟩
            · conv => whnf
              refine CallVC.obs hd1 rfl rfl ?_
              rintro _ _ F1 ⟨rfl, rfl⟩
              refine ⟨?_, trivial⟩
              · conv => whnf
                refine ⟨?_, trivial⟩
                · conv => whnf
                  refine CallVC.cov (args1 := [.loc 1 0, .agg (enD x.e), intD x.n]) [(2, 3), (3, 2)] [] ⟨[(67, intD r), (12, .loc 2 0), (11, intD k), (10, .loc 1 0), (9, .loc 0 0), (3, rowsT l)], rcH (.obj (.sep F1 (trA lo hi N S1 now))) x N now S, 4, ([], 0)⟩ ?_ ?_ (radd_vc _ _ _ x N now S x.e x.n (by omega) ⟨hp0, by omega⟩ hxo hS.fl rfl rfl (fun _ _ _ => rfl) fun r' S' hr' => ?_)
                  · repeat' (first | exact trivial | exact .inl (DLe.refl _) | exact .inl (DLe.nil _ _) | (refine .inr ⟨rfl, _, ?_, rfl⟩; rfl) | exact rfl | exact Nat.zero_le _ | constructor)
                  · repeat' (first | exact trivial | exact .inl (DLe.refl _) | exact .inl (DLe.nil _ _) | (refine .inr ⟨rfl, _, ?_, rfl⟩; rfl) | exact rfl | exact Nat.zero_le _ | constructor)
                  obtain ⟨rfl, rfl⟩ : r = r' ∧ S1 = S' := by rw [hr] at hr'; exact ⟨congrArg Prod.fst hr', congrArg Prod.snd hr'⟩
                  conv => whnf
                  refine ⟨F1, [], [], ?_⟩
                  repeat' (first | exact trivial | exact .inl (DLe.refl _) | exact .inl (DLe.nil _ _) | (refine .inr ⟨rfl, _, ?_, rfl⟩; rfl) | exact rfl | exact Nat.zero_le _ | constructor)
            · conv => whnf
              refine ⟨?_, trivial⟩
              · conv => whnf
                refine CallVC.obs hd1 rfl rfl ?_
                rintro _ _ F1 ⟨rfl, rfl⟩
                refine ⟨?_, trivial⟩
                · conv => whnf
                  refine CallVC.cov (args1 := [.loc 1 0, .agg (enD x.e), intD x.n]) [(2, 3), (3, 2)] [] ⟨[(67, intD r), (12, .loc 2 0), (11, intD k), (10, .loc 1 0), (9, .loc 0 0), (3, rowsT l)], rcH (.obj (.sep F1 (trA lo hi N S1 now))) x N now S, 4, ([], 0)⟩ ?_ ?_ (radd_vc _ _ _ x N now S x.e x.n (by omega) ⟨hp0, by omega⟩ hxo hS.fl rfl rfl (fun _ _ _ => rfl) fun r' S' hr' => ?_)
                  · repeat' (first | exact trivial | exact .inl (DLe.refl _) | exact .inl (DLe.nil _ _) | (refine .inr ⟨rfl, _, ?_, rfl⟩; rfl) | exact rfl | exact Nat.zero_le _ | constructor)
                  · repeat' (first | exact trivial | exact .inl (DLe.refl _) | exact .inl (DLe.nil _ _) | (refine .inr ⟨rfl, _, ?_, rfl⟩; rfl) | exact rfl | exact Nat.zero_le _ | constructor)
                  obtain ⟨rfl, rfl⟩ : r = r' ∧ S1 = S' := by rw [hr] at hr'; exact ⟨congrArg Prod.fst hr', congrArg Prod.snd hr'⟩
                  conv => whnf
                  refine ⟨F1, [], [], ?_⟩
                  repeat' (first | exact trivial | exact .inl (DLe.refl _) | exact .inl (DLe.nil _ _) | (refine .inr ⟨rfl, _, ?_, rfl⟩; rfl) | exact rfl | exact Nat.zero_le _ | constructor)
          · conv => whnf
            refine ⟨?_, ?_, trivial⟩
            · conv => whnf
              refine CallVC.obs hd1 rfl rfl ?_
              rintro _ _ F1 ⟨rfl, rfl⟩
              refine ⟨?_, trivial⟩
              · conv => whnf
                refine ⟨?_, trivial⟩
                · conv => whnf
                  refine CallVC.cov (args1 := [.loc 1 0, .agg (enD x.e), intD x.n]) [(2, 3), (3, 2)] [] ⟨[(67, intD r), (12, .loc 2 0), (11, intD k), (10, .loc 1 0), (9, .loc 0 0), (3, rowsT l)], rcH (.obj (.sep F1 (trA lo hi N S1 now))) x N now S, 4, ([], 0)⟩ ?_ ?_ (radd_vc _ _ _ x N now S x.e x.n (by omega) ⟨hp0, by omega⟩ hxo hS.fl rfl rfl (fun _ _ _ => rfl) fun r' S' hr' => ?_)
                  · repeat' (first | exact trivial | exact .inl (DLe.refl _) | exact .inl (DLe.nil _ _) | (refine .inr ⟨rfl, _, ?_, rfl⟩; rfl) | exact rfl | exact Nat.zero_le _ | constructor)
                  · repeat' (first | exact trivial | exact .inl (DLe.refl _) | exact .inl (DLe.nil _ _) | (refine .inr ⟨rfl, _, ?_, rfl⟩; rfl) | exact rfl | exact Nat.zero_le _ | constructor)
                  obtain ⟨rfl, rfl⟩ : r = r' ∧ S1 = S' := by rw [hr] at hr'; exact ⟨congrArg Prod.fst hr', congrArg Prod.snd hr'⟩
                  conv => whnf
                  refine ⟨F1, [], [], ?_⟩
                  repeat' (first | exact trivial | exact .inl (DLe.refl _) | exact .inl (DLe.nil _ _) | (refine .inr ⟨rfl, _, ?_, rfl⟩; rfl) | exact rfl | exact Nat.zero_le _ | constructor)
            · conv => whnf
              refine ⟨?_, trivial⟩
              · conv => whnf
                refine CallVC.obs hd1 rfl rfl ?_
                rintro _ _ F1 ⟨rfl, rfl⟩
                refine ⟨?_, trivial⟩
                · conv => whnf
                  refine CallVC.cov (args1 := [.loc 1 0, .agg (enD x.e), intD x.n]) [(2, 3), (3, 2)] [] ⟨[(67, intD r), (12, .loc 2 0), (11, intD k), (10, .loc 1 0), (9, .loc 0 0), (3, rowsT l)], rcH (.obj (.sep F1 (trA lo hi N S1 now))) x N now S, 4, ([], 0)⟩ ?_ ?_ (radd_vc _ _ _ x N now S x.e x.n (by omega) ⟨hp0, by omega⟩ hxo hS.fl rfl rfl (fun _ _ _ => rfl) fun r' S' hr' => ?_)
                  · repeat' (first | exact trivial | exact .inl (DLe.refl _) | exact .inl (DLe.nil _ _) | (refine .inr ⟨rfl, _, ?_, rfl⟩; rfl) | exact rfl | exact Nat.zero_le _ | constructor)
                  · repeat' (first | exact trivial | exact .inl (DLe.refl _) | exact .inl (DLe.nil _ _) | (refine .inr ⟨rfl, _, ?_, rfl⟩; rfl) | exact rfl | exact Nat.zero_le _ | constructor)
                  obtain ⟨rfl, rfl⟩ : r = r' ∧ S1 = S' := by rw [hr] at hr'; exact ⟨congrArg Prod.fst hr', congrArg Prod.snd hr'⟩
                  conv => whnf
                  refine ⟨F1, [], [], ?_⟩
                  repeat' (first | exact trivial | exact .inl (DLe.refl _) | exact .inl (DLe.nil _ _) | (refine .inr ⟨rfl, _, ?_, rfl⟩; rfl) | exact rfl | exact Nat.zero_le _ | constructor)
        · conv => whnf
          refine ⟨?_, ?_, trivial⟩
          · conv => whnf
            refine ⟨?_, ?_, trivial⟩
            · conv => whnf
              refine CallVC.obs hd1 rfl rfl ?_
              rintro _ _ F1 ⟨rfl, rfl⟩
              refine ⟨?_, trivial⟩
              · conv => whnf
                refine ⟨?_, trivial⟩
                · conv => whnf
                  refine CallVC.cov (args1 := [.loc 1 0, .agg (enD x.e), intD x.n]) [(2, 3), (3, 2)] [] ⟨[(67, intD r), (12, .loc 2 0), (11, intD k), (10, .loc 1 0), (9, .loc 0 0), (3, rowsT l)], rcH (.obj (.sep F1 (trA lo hi N S1 now))) x N now S, 4, ([], 0)⟩ ?_ ?_ (radd_vc _ _ _ x N now S x.e x.n (by omega) ⟨hp0, by omega⟩ hxo hS.fl rfl rfl (fun _ _ _ => rfl) fun r' S' hr' => ?_)
                  · repeat' (first | exact trivial | exact .inl (DLe.refl _) | exact .inl (DLe.nil _ _) | (refine .inr ⟨rfl, _, ?_, rfl⟩; rfl) | exact rfl | exact Nat.zero_le _ | constructor)
                  · repeat' (first | exact trivial | exact .inl (DLe.refl _) | exact .inl (DLe.nil _ _) | (refine .inr ⟨rfl, _, ?_, rfl⟩; rfl) | exact rfl | exact Nat.zero_le _ | constructor)
                  obtain ⟨rfl, rfl⟩ : r = r' ∧ S1 = S' := by rw [hr] at hr'; exact ⟨congrArg Prod.fst hr', congrArg Prod.snd hr'⟩
                  conv => whnf
                  refine ⟨F1, [], [], ?_⟩
                  repeat' (first | exact trivial | exact .inl (DLe.refl _) | exact .inl (DLe.nil _ _) | (refine .inr ⟨rfl, _, ?_, rfl⟩; rfl) | exact rfl | exact Nat.zero_le _ | constructor)
            · conv => whnf
              refine ⟨?_, trivial⟩
              · conv => whnf
                refine CallVC.obs hd1 rfl rfl ?_
                rintro _ _ F1 ⟨rfl, rfl⟩
                refine ⟨?_, trivial⟩
                · conv => whnf
                  refine CallVC.cov (args1 := [.loc 1 0, .agg (enD x.e), intD x.n]) [(2, 3), (3, 2)] [] ⟨[(67, intD r), (12, .loc 2 0), (11, intD k), (10, .loc 1 0), (9, .loc 0 0), (3, rowsT l)], rcH (.obj (.sep F1 (trA lo hi N S1 now))) x N now S, 4, ([], 0)⟩ ?_ ?_ (radd_vc _ _ _ x N now S x.e x.n (by omega) ⟨hp0, by omega⟩ hxo hS.fl rfl rfl (fun _ _ _ => rfl) fun r' S' hr' => ?_)
                  · repeat' (first | exact trivial | exact .inl (DLe.refl _) | exact .inl (DLe.nil _ _) | (refine .inr ⟨rfl, _, ?_, rfl⟩; rfl) | exact rfl | exact Nat.zero_le _ | constructor)
                  · repeat' (first | exact trivial | exact .inl (DLe.refl _) | exact .inl (DLe.nil _ _) | (refine .inr ⟨rfl, _, ?_, rfl⟩; rfl) | exact rfl | exact Nat.zero_le _ | constructor)
                  obtain ⟨rfl, rfl⟩ : r = r' ∧ S1 = S' := by rw [hr] at hr'; exact ⟨congrArg Prod.fst hr', congrArg Prod.snd hr'⟩
                  conv => whnf
                  refine ⟨F1, [], [], ?_⟩
                  repeat' (first | exact trivial | exact .inl (DLe.refl _) | exact .inl (DLe.nil _ _) | (refine .inr ⟨rfl, _, ?_, rfl⟩; rfl) | exact rfl | exact Nat.zero_le _ | constructor)
          · conv => whnf
            refine ⟨?_, trivial⟩
            · conv => whnf
              refine ⟨?_, trivial⟩
              · conv => whnf
                refine CallVC.obs hd1 rfl rfl ?_
                rintro _ _ F1 ⟨rfl, rfl⟩
                refine ⟨?_, trivial⟩
                · conv => whnf
                  refine CallVC.cov (args1 := [.loc 1 0, .agg (enD x.e), intD x.n]) [(2, 3), (3, 2)] [] ⟨[(67, intD r), (12, .loc 2 0), (11, intD k), (10, .loc 1 0), (9, .loc 0 0), (3, rowsT l)], rcH (.obj (.sep F1 (trA lo hi N S1 now))) x N now S, 4, ([], 0)⟩ ?_ ?_ (radd_vc _ _ _ x N now S x.e x.n (by omega) ⟨hp0, by omega⟩ hxo hS.fl rfl rfl (fun _ _ _ => rfl) fun r' S' hr' => ?_)
                  · repeat' (first | exact trivial | exact .inl (DLe.refl _) | exact .inl (DLe.nil _ _) | (refine .inr ⟨rfl, _, ?_, rfl⟩; rfl) | exact rfl | exact Nat.zero_le _ | constructor)
                  · repeat' (first | exact trivial | exact .inl (DLe.refl _) | exact .inl (DLe.nil _ _) | (refine .inr ⟨rfl, _, ?_, rfl⟩; rfl) | exact rfl | exact Nat.zero_le _ | constructor)
                  obtain ⟨rfl, rfl⟩ : r = r' ∧ S1 = S' := by rw [hr] at hr'; exact ⟨congrArg Prod.fst hr', congrArg Prod.snd hr'⟩
                  conv => whnf
                  refine ⟨F1, [], [], ?_⟩
                  repeat' (first | exact trivial | exact .inl (DLe.refl _) | exact .inl (DLe.nil _ _) | (refine .inr ⟨rfl, _, ?_, rfl⟩; rfl) | exact rfl | exact Nat.zero_le _ | constructor)
        · conv => whnf
          refine ⟨?_, ?_, trivial⟩
          · conv => whnf
            refine ⟨?_, ?_, trivial⟩
            · conv => whnf
              refine CallVC.obs hd1 rfl rfl ?_
              rintro _ _ F1 ⟨rfl, rfl⟩
              refine ⟨?_, trivial⟩
              · conv => whnf
                refine ⟨?_, trivial⟩
                · conv => whnf
                  refine CallVC.cov (args1 := [.loc 1 0, .agg (enD x.e), intD x.n]) [(2, 3), (3, 2)] [] ⟨[(67, intD r), (12, .loc 2 0), (11, intD k), (10, .loc 1 0), (9, .loc 0 0), (3, rowsT l)], rcH (.obj (.sep F1 (trA lo hi N S1 now))) x N now S, 4, ([], 0)⟩ ?_ ?_ (radd_vc _ _ _ x N now S x.e x.n (by omega) ⟨hp0, by omega⟩ hxo hS.fl rfl rfl (fun _ _ _ => rfl) fun r' S' hr' => ?_)
                  · repeat' (first | exact trivial | exact .inl (DLe.refl _) | exact .inl (DLe.nil _ _) | (refine .inr ⟨rfl, _, ?_, rfl⟩; rfl) | exact rfl | exact Nat.zero_le _ | constructor)
                  · repeat' (first | exact trivial | exact .inl (DLe.refl _) | exact .inl (DLe.nil _ _) | (refine .inr ⟨rfl, _, ?_, rfl⟩; rfl) | exact rfl | exact Nat.zero_le _ | constructor)
                  obtain ⟨rfl, rfl⟩ : r = r' ∧ S1 = S' := by rw [hr] at hr'; exact ⟨congrArg Prod.fst hr', congrArg Prod.snd hr'⟩
                  conv => whnf
                  refine ⟨F1, [], [], ?_⟩
                  repeat' (first | exact trivial | exact .inl (DLe.refl _) | exact .inl (DLe.nil _ _) | (refine .inr ⟨rfl, _, ?_, rfl⟩; rfl) | exact rfl | exact Nat.zero_le _ | constructor)
            · conv => whnf
              refine ⟨?_, trivial⟩
              · conv => whnf
                refine CallVC.obs hd1 rfl rfl ?_
                rintro _ _ F1 ⟨rfl, rfl⟩
                refine ⟨?_, trivial⟩
                · conv => whnf
                  refine CallVC.cov (args1 := [.loc 1 0, .agg (enD x.e), intD x.n]) [(2, 3), (3, 2)] [] ⟨[(67, intD r), (12, .loc 2 0), (11, intD k), (10, .loc 1 0), (9, .loc 0 0), (3, rowsT l)], rcH (.obj (.sep F1 (trA lo hi N S1 now))) x N now S, 4, ([], 0)⟩ ?_ ?_ (radd_vc _ _ _ x N now S x.e x.n (by omega) ⟨hp0, by omega⟩ hxo hS.fl rfl rfl (fun _ _ _ => rfl) fun r' S' hr' => ?_)
                  · repeat' (first | exact trivial | exact .inl (DLe.refl _) | exact .inl (DLe.nil _ _) | (refine .inr ⟨rfl, _, ?_, rfl⟩; rfl) | exact rfl | exact Nat.zero_le _ | constructor)
                  · repeat' (first | exact trivial | exact .inl (DLe.refl _) | exact .inl (DLe.nil _ _) | (refine .inr ⟨rfl, _, ?_, rfl⟩; rfl) | exact rfl | exact Nat.zero_le _ | constructor)
                  obtain ⟨rfl, rfl⟩ : r = r' ∧ S1 = S' := by rw [hr] at hr'; exact ⟨congrArg Prod.fst hr', congrArg Prod.snd hr'⟩
                  conv => whnf
                  refine ⟨F1, [], [], ?_⟩
                  repeat' (first | exact trivial | exact .inl (DLe.refl _) | exact .inl (DLe.nil _ _) | (refine .inr ⟨rfl, _, ?_, rfl⟩; rfl) | exact rfl | exact Nat.zero_le _ | constructor)
          · conv => whnf
            refine ⟨?_, trivial⟩
            · conv => whnf
              refine ⟨?_, trivial⟩
              · conv => whnf
                refine CallVC.obs hd1 rfl rfl ?_
                rintro _ _ F1 ⟨rfl, rfl⟩
                refine ⟨?_, trivial⟩
                · conv => whnf
                  refine CallVC.cov (args1 := [.loc 1 0, .agg (enD x.e), intD x.n]) [(2, 3), (3, 2)] [] ⟨[(67, intD r), (12, .loc 2 0), (11, intD k), (10, .loc 1 0), (9, .loc 0 0), (3, rowsT l)], rcH (.obj (.sep F1 (trA lo hi N S1 now))) x N now S, 4, ([], 0)⟩ ?_ ?_ (radd_vc _ _ _ x N now S x.e x.n (by omega) ⟨hp0, by omega⟩ hxo hS.fl rfl rfl (fun _ _ _ => rfl) fun r' S' hr' => ?_)
                  · repeat' (first | exact trivial | exact .inl (DLe.refl _) | exact .inl (DLe.nil _ _) | (refine .inr ⟨rfl, _, ?_, rfl⟩; rfl) | exact rfl | exact Nat.zero_le _ | constructor)
                  · repeat' (first | exact trivial | exact .inl (DLe.refl _) | exact .inl (DLe.nil _ _) | (refine .inr ⟨rfl, _, ?_, rfl⟩; rfl) | exact rfl | exact Nat.zero_le _ | constructor)
                  obtain ⟨rfl, rfl⟩ : r = r' ∧ S1 = S' := by rw [hr] at hr'; exact ⟨congrArg Prod.fst hr', congrArg Prod.snd hr'⟩
                  conv => whnf
                  refine ⟨F1, [], [], ?_⟩
                  repeat' (first | exact trivial | exact .inl (DLe.refl _) | exact .inl (DLe.nil _ _) | (refine .inr ⟨rfl, _, ?_, rfl⟩; rfl) | exact rfl | exact Nat.zero_le _ | constructor)
      · conv => whnf
        refine ⟨?_, ?_, ?_, trivial⟩
        · conv => whnf
          refine ⟨?_, ?_, trivial⟩
          · conv => whnf
            refine ⟨?_, ?_, trivial⟩
            · conv => whnf
              refine CallVC.obs hd1 rfl rfl ?_
              rintro _ _ F1 ⟨rfl, rfl⟩
              refine ⟨?_, trivial⟩
              · conv => whnf
                refine ⟨?_, trivial⟩
                · conv => whnf
                  refine CallVC.cov (args1 := [.loc 1 0, .agg (enD x.e), intD x.n]) [(2, 3), (3, 2)] [] ⟨[(67, intD r), (12, .loc 2 0), (11, intD k), (10, .loc 1 0), (9, .loc 0 0), (3, rowsT l)], rcH (.obj (.sep F1 (trA lo hi N S1 now))) x N now S, 4, ([], 0)⟩ ?_ ?_ (radd_vc _ _ _ x N now S x.e x.n (by omega) ⟨hp0, by omega⟩ hxo hS.fl rfl rfl (fun _ _ _ => rfl) fun r' S' hr' => ?_)
                  · repeat' (first | exact trivial | exact .inl (DLe.refl _) | exact .inl (DLe.nil _ _) | (refine .inr ⟨rfl, _, ?_, rfl⟩; rfl) | exact rfl | exact Nat.zero_le _ | constructor)
                  · repeat' (first | exact trivial | exact .inl (DLe.refl _) | exact .inl (DLe.nil _ _) | (refine .inr ⟨rfl, _, ?_, rfl⟩; rfl) | exact rfl | exact Nat.zero_le _ | constructor)
                  obtain ⟨rfl, rfl⟩ : r = r' ∧ S1 = S' := by rw [hr] at hr'; exact ⟨congrArg Prod.fst hr', congrArg Prod.snd hr'⟩
                  conv => whnf
                  refine ⟨F1, [], [], ?_⟩
                  repeat' (first | exact trivial | exact .inl (DLe.refl _) | exact .inl (DLe.nil _ _) | (refine .inr ⟨rfl, _, ?_, rfl⟩; rfl) | exact rfl | exact Nat.zero_le _ | constructor)
            · conv => whnf
              refine ⟨?_, trivial⟩
              · conv => whnf
                refine CallVC.obs hd1 rfl rfl ?_
                rintro _ _ F1 ⟨rfl, rfl⟩
                refine ⟨?_, trivial⟩
                · conv => whnf
                  refine CallVC.cov (args1 := [.loc 1 0, .agg (enD x.e), intD x.n]) [(2, 3), (3, 2)] [] ⟨[(67, intD r), (12, .loc 2 0), (11, intD k), (10, .loc 1 0), (9, .loc 0 0), (3, rowsT l)], rcH (.obj (.sep F1 (trA lo hi N S1 now))) x N now S, 4, ([], 0)⟩ ?_ ?_ (radd_vc _ _ _ x N now S x.e x.n (by omega) ⟨hp0, by omega⟩ hxo hS.fl rfl rfl (fun _ _ _ => rfl) fun r' S' hr' => ?_)
                  · repeat' (first | exact trivial | exact .inl (DLe.refl _) | exact .inl (DLe.nil _ _) | (refine .inr ⟨rfl, _, ?_, rfl⟩; rfl) | exact rfl | exact Nat.zero_le _ | constructor)
                  · repeat' (first | exact trivial | exact .inl (DLe.refl _) | exact .inl (DLe.nil _ _) | (refine .inr ⟨rfl, _, ?_, rfl⟩; rfl) | exact rfl | exact Nat.zero_le _ | constructor)
                  obtain ⟨rfl, rfl⟩ : r = r' ∧ S1 = S' := by rw [hr] at hr'; exact ⟨congrArg Prod.fst hr', congrArg Prod.snd hr'⟩
                  conv => whnf
                  refine ⟨F1, [], [], ?_⟩
                  repeat' (first | exact trivial | exact .inl (DLe.refl _) | exact .inl (DLe.nil _ _) | (refine .inr ⟨rfl, _, ?_, rfl⟩; rfl) | exact rfl | exact Nat.zero_le _ | constructor)
          · conv => whnf
            refine ⟨?_, trivial⟩
            · conv => whnf
              refine ⟨?_, trivial⟩
              · conv => whnf
                refine CallVC.obs hd1 rfl rfl ?_
                rintro _ _ F1 ⟨rfl, rfl⟩
                refine ⟨?_, trivial⟩
                · conv => whnf
                  refine CallVC.cov (args1 := [.loc 1 0, .agg (enD x.e), intD x.n]) [(2, 3), (3, 2)] [] ⟨[(67, intD r), (12, .loc 2 0), (11, intD k), (10, .loc 1 0), (9, .loc 0 0), (3, rowsT l)], rcH (.obj (.sep F1 (trA lo hi N S1 now))) x N now S, 4, ([], 0)⟩ ?_ ?_ (radd_vc _ _ _ x N now S x.e x.n (by omega) ⟨hp0, by omega⟩ hxo hS.fl rfl rfl (fun _ _ _ => rfl) fun r' S' hr' => ?_)
                  · repeat' (first | exact trivial | exact .inl (DLe.refl _) | exact .inl (DLe.nil _ _) | (refine .inr ⟨rfl, _, ?_, rfl⟩; rfl) | exact rfl | exact Nat.zero_le _ | constructor)
                  · repeat' (first | exact trivial | exact .inl (DLe.refl _) | exact .inl (DLe.nil _ _) | (refine .inr ⟨rfl, _, ?_, rfl⟩; rfl) | exact rfl | exact Nat.zero_le _ | constructor)
                  obtain ⟨rfl, rfl⟩ : r = r' ∧ S1 = S' := by rw [hr] at hr'; exact ⟨congrArg Prod.fst hr', congrArg Prod.snd hr'⟩
                  conv => whnf
                  refine ⟨F1, [], [], ?_⟩
                  repeat' (first | exact trivial | exact .inl (DLe.refl _) | exact .inl (DLe.nil _ _) | (refine .inr ⟨rfl, _, ?_, rfl⟩; rfl) | exact rfl | exact Nat.zero_le _ | constructor)
        · conv => whnf
          refine ⟨?_, ?_, trivial⟩
          · conv => whnf
            refine ⟨?_, ?_, trivial⟩
            · conv => whnf
              refine CallVC.obs hd1 rfl rfl ?_
              rintro _ _ F1 ⟨rfl, rfl⟩
              refine ⟨?_, trivial⟩
              · conv => whnf
                refine ⟨?_, trivial⟩
                · conv => whnf
                  refine CallVC.cov (args1 := [.loc 1 0, .agg (enD x.e), intD x.n]) [(2, 3), (3, 2)] [] ⟨[(67, intD r), (12, .loc 2 0), (11, intD k), (10, .loc 1 0), (9, .loc 0 0), (3, rowsT l)], rcH (.obj (.sep F1 (trA lo hi N S1 now))) x N now S, 4, ([], 0)⟩ ?_ ?_ (radd_vc _ _ _ x N now S x.e x.n (by omega) ⟨hp0, by omega⟩ hxo hS.fl rfl rfl (fun _ _ _ => rfl) fun r' S' hr' => ?_)
                  · repeat' (first | exact trivial | exact .inl (DLe.refl _) | exact .inl (DLe.nil _ _) | (refine .inr ⟨rfl, _, ?_, rfl⟩; rfl) | exact rfl | exact Nat.zero_le _ | constructor)
                  · repeat' (first | exact trivial | exact .inl (DLe.refl _) | exact .inl (DLe.nil _ _) | (refine .inr ⟨rfl, _, ?_, rfl⟩; rfl) | exact rfl | exact Nat.zero_le _ | constructor)
                  obtain ⟨rfl, rfl⟩ : r = r' ∧ S1 = S' := by rw [hr] at hr'; exact ⟨congrArg Prod.fst hr', congrArg Prod.snd hr'⟩
                  conv => whnf
                  refine ⟨F1, [], [], ?_⟩
                  repeat' (first | exact trivial | exact .inl (DLe.refl _) | exact .inl (DLe.nil _ _) | (refine .inr ⟨rfl, _, ?_, rfl⟩; rfl) | exact rfl | exact Nat.zero_le _ | constructor)
            · conv => whnf
              refine ⟨?_, trivial⟩
              · conv => whnf
                refine CallVC.obs hd1 rfl rfl ?_
                rintro _ _ F1 ⟨rfl, rfl⟩
                refine ⟨?_, trivial⟩
                · conv => whnf
                  refine CallVC.cov (args1 := [.loc 1 0, .agg (enD x.e), intD x.n]) [(2, 3), (3, 2)] [] ⟨[(67, intD r), (12, .loc 2 0), (11, intD k), (10, .loc 1 0), (9, .loc 0 0), (3, rowsT l)], rcH (.obj (.sep F1 (trA lo hi N S1 now))) x N now S, 4, ([], 0)⟩ ?_ ?_ (radd_vc _ _ _ x N now S x.e x.n (by omega) ⟨hp0, by omega⟩ hxo hS.fl rfl rfl (fun _ _ _ => rfl) fun r' S' hr' => ?_)
                  · repeat' (first | exact trivial | exact .inl (DLe.refl _) | exact .inl (DLe.nil _ _) | (refine .inr ⟨rfl, _, ?_, rfl⟩; rfl) | exact rfl | exact Nat.zero_le _ | constructor)
                  · repeat' (first | exact trivial | exact .inl (DLe.refl _) | exact .inl (DLe.nil _ _) | (refine .inr ⟨rfl, _, ?_, rfl⟩; rfl) | exact rfl | exact Nat.zero_le _ | constructor)
                  obtain ⟨rfl, rfl⟩ : r = r' ∧ S1 = S' := by rw [hr] at hr'; exact ⟨congrArg Prod.fst hr', congrArg Prod.snd hr'⟩
                  conv => whnf
                  refine ⟨F1, [], [], ?_⟩
                  repeat' (first | exact trivial | exact .inl (DLe.refl _) | exact .inl (DLe.nil _ _) | (refine .inr ⟨rfl, _, ?_, rfl⟩; rfl) | exact rfl | exact Nat.zero_le _ | constructor)
          · conv => whnf
            refine ⟨?_, trivial⟩
            · conv => whnf
              refine ⟨?_, trivial⟩
              · conv => whnf
                refine CallVC.obs hd1 rfl rfl ?_
                rintro _ _ F1 ⟨rfl, rfl⟩
                refine ⟨?_, trivial⟩
                · conv => whnf
                  refine CallVC.cov (args1 := [.loc 1 0, .agg (enD x.e), intD x.n]) [(2, 3), (3, 2)] [] ⟨[(67, intD r), (12, .loc 2 0), (11, intD k), (10, .loc 1 0), (9, .loc 0 0), (3, rowsT l)], rcH (.obj (.sep F1 (trA lo hi N S1 now))) x N now S, 4, ([], 0)⟩ ?_ ?_ (radd_vc _ _ _ x N now S x.e x.n (by omega) ⟨hp0, by omega⟩ hxo hS.fl rfl rfl (fun _ _ _ => rfl) fun r' S' hr' => ?_)
                  · repeat' (first | exact trivial | exact .inl (DLe.refl _) | exact .inl (DLe.nil _ _) | (refine .inr ⟨rfl, _, ?_, rfl⟩; rfl) | exact rfl | exact Nat.zero_le _ | constructor)
                  · repeat' (first | exact trivial | exact .inl (DLe.refl _) | exact .inl (DLe.nil _ _) | (refine .inr ⟨rfl, _, ?_, rfl⟩; rfl) | exact rfl | exact Nat.zero_le _ | constructor)
                  obtain ⟨rfl, rfl⟩ : r = r' ∧ S1 = S' := by rw [hr] at hr'; exact ⟨congrArg Prod.fst hr', congrArg Prod.snd hr'⟩
                  conv => whnf
                  refine ⟨F1, [], [], ?_⟩
                  repeat' (first | exact trivial | exact .inl (DLe.refl _) | exact .inl (DLe.nil _ _) | (refine .inr ⟨rfl, _, ?_, rfl⟩; rfl) | exact rfl | exact Nat.zero_le _ | constructor)
        · conv => whnf
          refine ⟨?_, ?_, trivial⟩
          · conv => whnf
            refine ⟨?_, trivial⟩
            · conv => whnf
              refine ⟨?_, trivial⟩
              · conv => whnf
                refine CallVC.obs hd1 rfl rfl ?_
                rintro _ _ F1 ⟨rfl, rfl⟩
                refine ⟨?_, trivial⟩
                · conv => whnf
                  refine CallVC.cov (args1 := [.loc 1 0, .agg (enD x.e), intD x.n]) [(2, 3), (3, 2)] [] ⟨[(67, intD r), (12, .loc 2 0), (11, intD k), (10, .loc 1 0), (9, .loc 0 0), (3, rowsT l)], rcH (.obj (.sep F1 (trA lo hi N S1 now))) x N now S, 4, ([], 0)⟩ ?_ ?_ (radd_vc _ _ _ x N now S x.e x.n (by omega) ⟨hp0, by omega⟩ hxo hS.fl rfl rfl (fun _ _ _ => rfl) fun r' S' hr' => ?_)
                  · repeat' (first | exact trivial | exact .inl (DLe.refl _) | exact .inl (DLe.nil _ _) | (refine .inr ⟨rfl, _, ?_, rfl⟩; rfl) | exact rfl | exact Nat.zero_le _ | constructor)
                  · repeat' (first | exact trivial | exact .inl (DLe.refl _) | exact .inl (DLe.nil _ _) | (refine .inr ⟨rfl, _, ?_, rfl⟩; rfl) | exact rfl | exact Nat.zero_le _ | constructor)
                  obtain ⟨rfl, rfl⟩ : r = r' ∧ S1 = S' := by rw [hr] at hr'; exact ⟨congrArg Prod.fst hr', congrArg Prod.snd hr'⟩
                  conv => whnf
                  refine ⟨F1, [], [], ?_⟩
                  repeat' (first | exact trivial | exact .inl (DLe.refl _) | exact .inl (DLe.nil _ _) | (refine .inr ⟨rfl, _, ?_, rfl⟩; rfl) | exact rfl | exact Nat.zero_le _ | constructor)
          · conv => whnf
            refine ⟨?_, trivial⟩
            · conv => whnf
              refine ⟨?_, trivial⟩
              · conv => whnf
                refine CallVC.obs hd1 rfl rfl ?_
                rintro _ _ F1 ⟨rfl, rfl⟩
                refine ⟨?_, trivial⟩
                · conv => whnf
                  refine CallVC.cov (args1 := [.loc 1 0, .agg (enD x.e), intD x.n]) [(2, 3), (3, 2)] [] ⟨[(67, intD r), (12, .loc 2 0), (11, intD k), (10, .loc 1 0), (9, .loc 0 0), (3, rowsT l)], rcH (.obj (.sep F1 (trA lo hi N S1 now))) x N now S, 4, ([], 0)⟩ ?_ ?_ (radd_vc _ _ _ x N now S x.e x.n (by omega) ⟨hp0, by omega⟩ hxo hS.fl rfl rfl (fun _ _ _ => rfl) fun r' S' hr' => ?_)
                  · repeat' (first | exact trivial | exact .inl (DLe.refl _) | exact .inl (DLe.nil _ _) | (refine .inr ⟨rfl, _, ?_, rfl⟩; rfl) | exact rfl | exact Nat.zero_le _ | constructor)
                  · repeat' (first | exact trivial | exact .inl (DLe.refl _) | exact .inl (DLe.nil _ _) | (refine .inr ⟨rfl, _, ?_, rfl⟩; rfl) | exact rfl | exact Nat.zero_le _ | constructor)
                  obtain ⟨rfl, rfl⟩ : r = r' ∧ S1 = S' := by rw [hr] at hr'; exact ⟨congrArg Prod.fst hr', congrArg Prod.snd hr'⟩
                  conv => whnf
                  refine ⟨F1, [], [], ?_⟩
                  repeat' (first | exact trivial | exact .inl (DLe.refl _) | exact .inl (DLe.nil _ _) | (refine .inr ⟨rfl, _, ?_, rfl⟩; rfl) | exact rfl | exact Nat.zero_le _ | constructor)
      · conv => whnf
        refine ⟨?_, ?_, ?_, trivial⟩
        · conv => whnf
          refine ⟨?_, ?_, trivial⟩
          · conv => whnf
            refine ⟨?_, ?_, trivial⟩
            · conv => whnf
              refine CallVC.obs hd1 rfl rfl ?_
              rintro _ _ F1 ⟨rfl, rfl⟩
              refine ⟨?_, trivial⟩
              · conv => whnf
                refine ⟨?_, trivial⟩
                · conv => whnf
                  refine CallVC.cov (args1 := [.loc 1 0, .agg (enD x.e), intD x.n]) [(2, 3), (3, 2)] [] ⟨[(67, intD r), (12, .loc 2 0), (11, intD k), (10, .loc 1 0), (9, .loc 0 0), (3, rowsT l)], rcH (.obj (.sep F1 (trA lo hi N S1 now))) x N now S, 4, ([], 0)⟩ ?_ ?_ (radd_vc _ _ _ x N now S x.e x.n (by omega) ⟨hp0, by omega⟩ hxo hS.fl rfl rfl (fun _ _ _ => rfl) fun r' S' hr' => ?_)
                  · repeat' (first | exact trivial | exact .inl (DLe.refl _) | exact .inl (DLe.nil _ _) | (refine .inr ⟨rfl, _, ?_, rfl⟩; rfl) | exact rfl | exact Nat.zero_le _ | constructor)
                  · repeat' (first | exact trivial | exact .inl (DLe.refl _) | exact .inl (DLe.nil _ _) | (refine .inr ⟨rfl, _, ?_, rfl⟩; rfl) | exact rfl | exact Nat.zero_le _ | constructor)
                  obtain ⟨rfl, rfl⟩ : r = r' ∧ S1 = S' := by rw [hr] at hr'; exact ⟨congrArg Prod.fst hr', congrArg Prod.snd hr'⟩
                  conv => whnf
                  refine ⟨F1, [], [], ?_⟩
                  repeat' (first | exact trivial | exact .inl (DLe.refl _) | exact .inl (DLe.nil _ _) | (refine .inr ⟨rfl, _, ?_, rfl⟩; rfl) | exact rfl | exact Nat.zero_le _ | constructor)
            · conv => whnf
              refine ⟨?_, trivial⟩
              · conv => whnf
                refine CallVC.obs hd1 rfl rfl ?_
                rintro _ _ F1 ⟨rfl, rfl⟩
                refine ⟨?_, trivial⟩
                · conv => whnf
                  refine CallVC.cov (args1 := [.loc 1 0, .agg (enD x.e), intD x.n]) [(2, 3), (3, 2)] [] ⟨[(67, intD r), (12, .loc 2 0), (11, intD k), (10, .loc 1 0), (9, .loc 0 0), (3, rowsT l)], rcH (.obj (.sep F1 (trA lo hi N S1 now))) x N now S, 4, ([], 0)⟩ ?_ ?_ (radd_vc _ _ _ x N now S x.e x.n (by omega) ⟨hp0, by omega⟩ hxo hS.fl rfl rfl (fun _ _ _ => rfl) fun r' S' hr' => ?_)
                  · repeat' (first | exact trivial | exact .inl (DLe.refl _) | exact .inl (DLe.nil _ _) | (refine .inr ⟨rfl, _, ?_, rfl⟩; rfl) | exact rfl | exact Nat.zero_le _ | constructor)
                  · repeat' (first | exact trivial | exact .inl (DLe.refl _) | exact .inl (DLe.nil _ _) | (refine .inr ⟨rfl, _, ?_, rfl⟩; rfl) | exact rfl | exact Nat.zero_le _ | constructor)
                  obtain ⟨rfl, rfl⟩ : r = r' ∧ S1 = S' := by rw [hr] at hr'; exact ⟨congrArg Prod.fst hr', congrArg Prod.snd hr'⟩
                  conv => whnf
                  refine ⟨F1, [], [], ?_⟩
                  repeat' (first | exact trivial | exact .inl (DLe.refl _) | exact .inl (DLe.nil _ _) | (refine .inr ⟨rfl, _, ?_, rfl⟩; rfl) | exact rfl | exact Nat.zero_le _ | constructor)
          · conv => whnf
            refine ⟨?_, trivial⟩
            · conv => whnf
              refine ⟨?_, trivial⟩
              · conv => whnf
                refine CallVC.obs hd1 rfl rfl ?_
                rintro _ _ F1 ⟨rfl, rfl⟩
                refine ⟨?_, trivial⟩
                · conv => whnf
                  refine CallVC.cov (args1 := [.loc 1 0, .agg (enD x.e), intD x.n]) [(2, 3), (3, 2)] [] ⟨[(67, intD r), (12, .loc 2 0), (11, intD k), (10, .loc 1 0), (9, .loc 0 0), (3, rowsT l)], rcH (.obj (.sep F1 (trA lo hi N S1 now))) x N now S, 4, ([], 0)⟩ ?_ ?_ (radd_vc _ _ _ x N now S x.e x.n (by omega) ⟨hp0, by omega⟩ hxo hS.fl rfl rfl (fun _ _ _ => rfl) fun r' S' hr' => ?_)
                  · repeat' (first | exact trivial | exact .inl (DLe.refl _) | exact .inl (DLe.nil _ _) | (refine .inr ⟨rfl, _, ?_, rfl⟩; rfl) | exact rfl | exact Nat.zero_le _ | constructor)
                  · repeat' (first | exact trivial | exact .inl (DLe.refl _) | exact .inl (DLe.nil _ _) | (refine .inr ⟨rfl, _, ?_, rfl⟩; rfl) | exact rfl | exact Nat.zero_le _ | constructor)
                  obtain ⟨rfl, rfl⟩ : r = r' ∧ S1 = S' := by rw [hr] at hr'; exact ⟨congrArg Prod.fst hr', congrArg Prod.snd hr'⟩
                  conv => whnf
                  refine ⟨F1, [], [], ?_⟩
                  repeat' (first | exact trivial | exact .inl (DLe.refl _) | exact .inl (DLe.nil _ _) | (refine .inr ⟨rfl, _, ?_, rfl⟩; rfl) | exact rfl | exact Nat.zero_le _ | constructor)
        · conv => whnf
          refine ⟨?_, ?_, trivial⟩
          · conv => whnf
            refine ⟨?_, ?_, trivial⟩
            · conv => whnf
              refine CallVC.obs hd1 rfl rfl ?_
              rintro _ _ F1 ⟨rfl, rfl⟩
              refine ⟨?_, trivial⟩
              · conv => whnf
                refine ⟨?_, trivial⟩
                · conv => whnf
                  refine CallVC.cov (args1 := [.loc 1 0, .agg (enD x.e), intD x.n]) [(2, 3), (3, 2)] [] ⟨[(67, intD r), (12, .loc 2 0), (11, intD k), (10, .loc 1 0), (9, .loc 0 0), (3, rowsT l)], rcH (.obj (.sep F1 (trA lo hi N S1 now))) x N now S, 4, ([], 0)⟩ ?_ ?_ (radd_vc _ _ _ x N now S x.e x.n (by omega) ⟨hp0, by omega⟩ hxo hS.fl rfl rfl (fun _ _ _ => rfl) fun r' S' hr' => ?_)
                  · repeat' (first | exact trivial | exact .inl (DLe.refl _) | exact .inl (DLe.nil _ _) | (refine .inr ⟨rfl, _, ?_, rfl⟩; rfl) | exact rfl | exact Nat.zero_le _ | constructor)
                  · repeat' (first | exact trivial | exact .inl (DLe.refl _) | exact .inl (DLe.nil _ _) | (refine .inr ⟨rfl, _, ?_, rfl⟩; rfl) | exact rfl | exact Nat.zero_le _ | constructor)
                  obtain ⟨rfl, rfl⟩ : r = r' ∧ S1 = S' := by rw [hr] at hr'; exact ⟨congrArg Prod.fst hr', congrArg Prod.snd hr'⟩
                  conv => whnf
                  refine ⟨F1, [], [], ?_⟩
                  repeat' (first | exact trivial | exact .inl (DLe.refl _) | exact .inl (DLe.nil _ _) | (refine .inr ⟨rfl, _, ?_, rfl⟩; rfl) | exact rfl | exact Nat.zero_le _ | constructor)
            · conv => whnf
              refine ⟨?_, trivial⟩
              · conv => whnf
                refine CallVC.obs hd1 rfl rfl ?_
                rintro _ _ F1 ⟨rfl, rfl⟩
                refine ⟨?_, trivial⟩
                · conv => whnf
                  refine CallVC.cov (args1 := [.loc 1 0, .agg (enD x.e), intD x.n]) [(2, 3), (3, 2)] [] ⟨[(67, intD r), (12, .loc 2 0), (11, intD k), (10, .loc 1 0), (9, .loc 0 0), (3, rowsT l)], rcH (.obj (.sep F1 (trA lo hi N S1 now))) x N now S, 4, ([], 0)⟩ ?_ ?_ (radd_vc _ _ _ x N now S x.e x.n (by omega) ⟨hp0, by omega⟩ hxo hS.fl rfl rfl (fun _ _ _ => rfl) fun r' S' hr' => ?_)
                  · repeat' (first | exact trivial | exact .inl (DLe.refl _) | exact .inl (DLe.nil _ _) | (refine .inr ⟨rfl, _, ?_, rfl⟩; rfl) | exact rfl | exact Nat.zero_le _ | constructor)
                  · repeat' (first | exact trivial | exact .inl (DLe.refl _) | exact .inl (DLe.nil _ _) | (refine .inr ⟨rfl, _, ?_, rfl⟩; rfl) | exact rfl | exact Nat.zero_le _ | constructor)
                  obtain ⟨rfl, rfl⟩ : r = r' ∧ S1 = S' := by rw [hr] at hr'; exact ⟨congrArg Prod.fst hr', congrArg Prod.snd hr'⟩
                  conv => whnf
                  refine ⟨F1, [], [], ?_⟩
                  repeat' (first | exact trivial | exact .inl (DLe.refl _) | exact .inl (DLe.nil _ _) | (refine .inr ⟨rfl, _, ?_, rfl⟩; rfl) | exact rfl | exact Nat.zero_le _ | constructor)
          · conv => whnf
            refine ⟨?_, trivial⟩
            · conv => whnf
              refine ⟨?_, trivial⟩
              · conv => whnf
                refine CallVC.obs hd1 rfl rfl ?_
                rintro _ _ F1 ⟨rfl, rfl⟩
                refine ⟨?_, trivial⟩
                · conv => whnf
                  refine CallVC.cov (args1 := [.loc 1 0, .agg (enD x.e), intD x.n]) [(2, 3), (3, 2)] [] ⟨[(67, intD r), (12, .loc 2 0), (11, intD k), (10, .loc 1 0), (9, .loc 0 0), (3, rowsT l)], rcH (.obj (.sep F1 (trA lo hi N S1 now))) x N now S, 4, ([], 0)⟩ ?_ ?_ (radd_vc _ _ _ x N now S x.e x.n (by omega) ⟨hp0, by omega⟩ hxo hS.fl rfl rfl (fun _ _ _ => rfl) fun r' S' hr' => ?_)
                  · repeat' (first | exact trivial | exact .inl (DLe.refl _) | exact .inl (DLe.nil _ _) | (refine .inr ⟨rfl, _, ?_, rfl⟩; rfl) | exact rfl | exact Nat.zero_le _ | constructor)
                  · repeat' (first | exact trivial | exact .inl (DLe.refl _) | exact .inl (DLe.nil _ _) | (refine .inr ⟨rfl, _, ?_, rfl⟩; rfl) | exact rfl | exact Nat.zero_le _ | constructor)
                  obtain ⟨rfl, rfl⟩ : r = r' ∧ S1 = S' := by rw [hr] at hr'; exact ⟨congrArg Prod.fst hr', congrArg Prod.snd hr'⟩
                  conv => whnf
                  refine ⟨F1, [], [], ?_⟩
                  repeat' (first | exact trivial | exact .inl (DLe.refl _) | exact .inl (DLe.nil _ _) | (refine .inr ⟨rfl, _, ?_, rfl⟩; rfl) | exact rfl | exact Nat.zero_le _ | constructor)
        · conv => whnf
          refine ⟨?_, ?_, trivial⟩
          · conv => whnf
            refine ⟨?_, trivial⟩
            · conv => whnf
              refine ⟨?_, trivial⟩
              · conv => whnf
                refine CallVC.obs hd1 rfl rfl ?_
                rintro _ _ F1 ⟨rfl, rfl⟩
                refine ⟨?_, trivial⟩
                · conv => whnf
                  refine CallVC.cov (args1 := [.loc 1 0, .agg (enD x.e), intD x.n]) [(2, 3), (3, 2)] [] ⟨[(67, intD r), (12, .loc 2 0), (11, intD k), (10, .loc 1 0), (9, .loc 0 0), (3, rowsT l)], rcH (.obj (.sep F1 (trA lo hi N S1 now))) x N now S, 4, ([], 0)⟩ ?_ ?_ (radd_vc _ _ _ x N now S x.e x.n (by omega) ⟨hp0, by omega⟩ hxo hS.fl rfl rfl (fun _ _ _ => rfl) fun r' S' hr' => ?_)
                  · repeat' (first | exact trivial | exact .inl (DLe.refl _) | exact .inl (DLe.nil _ _) | (refine .inr ⟨rfl, _, ?_, rfl⟩; rfl) | exact rfl | exact Nat.zero_le _ | constructor)
                  · repeat' (first | exact trivial | exact .inl (DLe.refl _) | exact .inl (DLe.nil _ _) | (refine .inr ⟨rfl, _, ?_, rfl⟩; rfl) | exact rfl | exact Nat.zero_le _ | constructor)
                  obtain ⟨rfl, rfl⟩ : r = r' ∧ S1 = S' := by rw [hr] at hr'; exact ⟨congrArg Prod.fst hr', congrArg Prod.snd hr'⟩
                  conv => whnf
                  refine ⟨F1, [], [], ?_⟩
                  repeat' (first | exact trivial | exact .inl (DLe.refl _) | exact .inl (DLe.nil _ _) | (refine .inr ⟨rfl, _, ?_, rfl⟩; rfl) | exact rfl | exact Nat.zero_le _ | constructor)
          · conv => whnf
            refine ⟨?_, trivial⟩
            · conv => whnf
              refine ⟨?_, trivial⟩
              · conv => whnf
                refine CallVC.obs hd1 rfl rfl ?_
                rintro _ _ F1 ⟨rfl, rfl⟩
                refine ⟨?_, trivial⟩
                · conv => whnf
                  refine CallVC.cov (args1 := [.loc 1 0, .agg (enD x.e), intD x.n]) [(2, 3), (3, 2)] [] ⟨[(67, intD r), (12, .loc 2 0), (11, intD k), (10, .loc 1 0), (9, .loc 0 0), (3, rowsT l)], rcH (.obj (.sep F1 (trA lo hi N S1 now))) x N now S, 4, ([], 0)⟩ ?_ ?_ (radd_vc _ _ _ x N now S x.e x.n (by omega) ⟨hp0, by omega⟩ hxo hS.fl rfl rfl (fun _ _ _ => rfl) fun r' S' hr' => ?_)
                  · repeat' (first | exact trivial | exact .inl (DLe.refl _) | exact .inl (DLe.nil _ _) | (refine .inr ⟨rfl, _, ?_, rfl⟩; rfl) | exact rfl | exact Nat.zero_le _ | constructor)
                  · repeat' (first | exact trivial | exact .inl (DLe.refl _) | exact .inl (DLe.nil _ _) | (refine .inr ⟨rfl, _, ?_, rfl⟩; rfl) | exact rfl | exact Nat.zero_le _ | constructor)
                  obtain ⟨rfl, rfl⟩ : r = r' ∧ S1 = S' := by rw [hr] at hr'; exact ⟨congrArg Prod.fst hr', congrArg Prod.snd hr'⟩
                  conv => whnf
                  refine ⟨F1, [], [], ?_⟩
                  repeat' (first | exact trivial | exact .inl (DLe.refl _) | exact .inl (DLe.nil _ _) | (refine .inr ⟨rfl, _, ?_, rfl⟩; rfl) | exact rfl | exact Nat.zero_le _ | constructor)
    have hl1 : S1.length ≤ k + 1 := by omega
    have hn1 : 0 ≤ now ∧ now ≤ 1073741824 + 4095 * ((k + 1 : Nat) : Int) := ⟨hp0, by omega⟩
    generalize now = now1 at *
    conv => whnf
    rw [show (!decide (r = r)) = false by simp]
    have hg := tget_sp lo hi N S1 now1 hxo
    have hrf := r23find_fn N now1 S1 (by omega) x.e.f
    have hro := r23of_fn N now1 S1 x.e.be (by omega)
    have hkl : (keptOf x.e.be S1).length ≤ S1.length := List.length_filter_le _ _
    have hsame := sameE_fn S1 S1 (by omega)
    have hsame2 := sameE_fn (keptOf x.e.be S1) (keptOf x.e.be S1) (by omega)
    rw [decide_eq_true (rfl : S1 = S1)] at hsame
    rw [decide_eq_true (rfl : keptOf x.e.be S1 = keptOf x.e.be S1)] at hsame2
    unfold getS at hg
    unfold findI at hrf
    cases hq : S1.findIdx? (isFl x.e.f) with
    | none =>
      rw [hq] at hg hrf
      dsimp only at hg hrf
      conv => whnf
      refine CallVC.look hg rfl ?_
      rintro _ rfl
      conv => whnf
      refine CallVC.look hrf rfl ?_
      rintro _ rfl
      conv => whnf
      refine ⟨eqEnOk, rfl, ?_⟩
      conv => whnf
      refine CallVC.look (tnow_sp lo hi N S1 now1) rfl ?_
      rintro _ rfl
      conv => whnf
      refine Fork.intro (fun h => ?_) (fun _ => ?_)
      · have h : (!decide (now1 = now1)) = true := h
        simp at h
      conv => whnf
      refine CallVC.look (tlen_sp lo hi N S1 now1) rfl ?_
      rintro _ rfl
      conv => whnf
      refine Fork.intro (fun h => ?_) (fun _ => ?_)
      · have h : (!decide ((S1.length : Int) = S1.length)) = true := h
        simp at h
      conv => whnf
      refine CallVC.look (tall_sp lo hi N S1 now1) rfl ?_
      rintro _ rfl
      conv => whnf
      refine CallVC.snap hsame ?_
      rintro _ rfl
      refine ⟨rfl, ?_⟩
      conv => whnf
      refine CallVC.look (tof_sp lo hi N S1 now1 x.e.be) rfl ?_
      rintro _ rfl
      conv => whnf
      refine CallVC.look hro rfl ?_
      rintro _ rfl
      conv => whnf
      refine CallVC.pure hsame2 rfl ?_
      rintro _ rfl
      conv => whnf
      rw [hwk]
      refine ⟨⟨k + 1, S1, now1, F1⟩, [(2, 3)], [], ?_, ⟨by show k + 1 ≤ _; omega, by show k + 1 ≤ 60; omega, hS1, hl1, hn1.1, hn1.2⟩, by show l.length - (k + 1) < l.length - k; omega⟩
      repeat' (first | exact trivial | exact .inl (DLe.refl _) | exact .inl (DLe.nil _ _) | (refine .inr ⟨rfl, _, ?_, rfl⟩; rfl) | exact rfl | exact Nat.zero_le _ | constructor)
    | some q =>
      rw [hq] at hg hrf
      obtain ⟨y, hy, hyf⟩ := find_at hq
      dsimp only at hg hrf
      rw [hy] at hg
      dsimp only [Option.getD_some] at hg
      have hql := (List.getElem?_eq_some_iff.1 hy).1
      conv => whnf
      refine CallVC.look hg rfl ?_
      rintro _ rfl
      conv => whnf
      refine CallVC.look hrf rfl ?_
      rintro _ rfl
      conv => whnf
      refine ⟨rfl, ⟨Int.natCast_nonneg _, Int.ofNat_lt.2 hql⟩, ?_⟩
      conv => whnf
      refine ⟨rfl, hql, fun z hz => ?_⟩
      obtain rfl : z = y := by rw [Int.toNat_natCast, hy] at hz; injection hz with hz; exact hz.symm
      conv => whnf
      refine ⟨eqEnOk, rfl, ?_⟩
      conv => whnf
      refine Fork.intro (fun h => ?_) (fun _ => ?_)
      · have h := (congrArg (!·) (eq_en z z)).symm.trans h
        simp at h
      conv => whnf
      refine CallVC.look (tnow_sp lo hi N S1 now1) rfl ?_
      rintro _ rfl
      conv => whnf
      refine Fork.intro (fun h => ?_) (fun _ => ?_)
      · have h : (!decide (now1 = now1)) = true := h
        simp at h
      conv => whnf
      refine CallVC.look (tlen_sp lo hi N S1 now1) rfl ?_
      rintro _ rfl
      conv => whnf
      refine Fork.intro (fun h => ?_) (fun _ => ?_)
      · have h : (!decide ((S1.length : Int) = S1.length)) = true := h
        simp at h
      conv => whnf
      refine CallVC.look (tall_sp lo hi N S1 now1) rfl ?_
      rintro _ rfl
      conv => whnf
      refine CallVC.snap hsame ?_
      rintro _ rfl
      refine ⟨rfl, ?_⟩
      conv => whnf
      refine CallVC.look (tof_sp lo hi N S1 now1 x.e.be) rfl ?_
      rintro _ rfl
      conv => whnf
      refine CallVC.look hro rfl ?_
      rintro _ rfl
      conv => whnf
      refine CallVC.pure hsame2 rfl ?_
      rintro _ rfl
      conv => whnf
      rw [hwk]
      refine ⟨⟨k + 1, S1, now1, F1⟩, [(2, 3)], [], ?_, ⟨by show k + 1 ≤ _; omega, by show k + 1 ≤ 60; omega, hS1, hl1, hn1.1, hn1.2⟩, by show l.length - (k + 1) < l.length - k; omega⟩
      repeat' (first | exact trivial | exact .inl (DLe.refl _) | exact .inl (DLe.nil _ _) | (refine .inr ⟨rfl, _, ?_, rfl⟩; rfl) | exact rfl | exact Nat.zero_le _ | constructor)
  | false =>
  conv => whnf
  cases c1 : decide (x.kind = 1) with
  | true =>
    conv => whnf
    have hd1 := tkeep_obs lo hi N S now x.e x.n hxo (by omega) (by omega)
    obtain ⟨hS1, a2, _, _⟩ := hS.keep (e := x.e) x.n hp0
    generalize hr : keepS S now x.e x.n = r at *
    obtain ⟨r, S1⟩ := r
    dsimp only at hS1 a2 hd1
    refine ⟨Nat → Prop, fun F1 => ⟨[(89, boolD (!(r == r))), (12, .loc 2 0), (11, intD k), (10, .loc 1 0), (9, .loc 0 0), (3, rowsT l)], rcH (.obj (.sep F1 (trA lo hi N S1 now))) x N now S1, 4, ([], 0)⟩, ?_, fun F1 => ?_⟩
    · conv => whnf
      refine ⟨?_, ?_, ?_, ?_, trivial⟩
      · conv => whnf
        refine ⟨?_, ?_, ?_, trivial⟩
        · conv => whnf
          refine ⟨?_, ?_, ?_, trivial⟩
          · conv => whnf
            refine CallVC.obs hd1 rfl rfl ?_
            rintro _ _ F1 ⟨rfl, rfl⟩
            refine ⟨?_, ?_, trivial⟩
            · conv => whnf
              refine ⟨?_, trivial⟩
              · conv => whnf
                refine ⟨?_, trivial⟩
                · conv => whnf
                  refine CallVC.cov (args1 := [.loc 1 0, .agg (enD x.e), intD x.n]) [(2, 3), (3, 2)] [] ⟨[(82, boolD r), (12, .loc 2 0), (11, intD k), (10, .loc 1 0), (9, .loc 0 0), (3, rowsT l)], rcH (.obj (.sep F1 (trA lo hi N S1 now))) x N now S, 4, ([], 0)⟩ ?_ ?_ (rkeep_vc _ _ _ x N now S x.e x.n (by omega) ⟨hp0, by omega⟩ rfl rfl (fun _ _ _ => rfl) fun r' S' hr' => ?_)
                  · repeat' (first | exact trivial | exact .inl (DLe.refl _) | exact .inl (DLe.nil _ _) | (refine .inr ⟨rfl, _, ?_, rfl⟩; rfl) | exact rfl | exact Nat.zero_le _ | constructor)
                  · repeat' (first | exact trivial | exact .inl (DLe.refl _) | exact .inl (DLe.nil _ _) | (refine .inr ⟨rfl, _, ?_, rfl⟩; rfl) | exact rfl | exact Nat.zero_le _ | constructor)
                  obtain ⟨rfl, rfl⟩ : r = r' ∧ S1 = S' := by rw [hr] at hr'; exact ⟨congrArg Prod.fst hr', congrArg Prod.snd hr'⟩
                  conv => whnf
                  refine ⟨F1, [], [], ?_⟩
                  repeat' (first | exact trivial | exact .inl (DLe.refl _) | exact .inl (DLe.nil _ _) | (refine .inr ⟨rfl, _, ?_, rfl⟩; rfl) | exact rfl | exact Nat.zero_le _ | constructor)
            · conv => whnf
              refine ⟨?_, trivial⟩
              · conv => whnf
                refine ⟨?_, trivial⟩
                · conv => whnf
                  refine CallVC.cov (args1 := [.loc 1 0, .agg (enD x.e), intD x.n]) [(2, 3), (3, 2)] [] ⟨[(82, boolD r), (12, .loc 2 0), (11, intD k), (10, .loc 1 0), (9, .loc 0 0), (3, rowsT l)], rcH (.obj (.sep F1 (trA lo hi N S1 now))) x N now S, 4, ([], 0)⟩ ?_ ?_ (rkeep_vc _ _ _ x N now S x.e x.n (by omega) ⟨hp0, by omega⟩ rfl rfl (fun _ _ _ => rfl) fun r' S' hr' => ?_)
                  · repeat' (first | exact trivial | exact .inl (DLe.refl _) | exact .inl (DLe.nil _ _) | (refine .inr ⟨rfl, _, ?_, rfl⟩; rfl) | exact rfl | exact Nat.zero_le _ | constructor)
                  · repeat' (first | exact trivial | exact .inl (DLe.refl _) | exact .inl (DLe.nil _ _) | (refine .inr ⟨rfl, _, ?_, rfl⟩; rfl) | exact rfl | exact Nat.zero_le _ | constructor)
                  obtain ⟨rfl, rfl⟩ : r = r' ∧ S1 = S' := by rw [hr] at hr'; exact ⟨congrArg Prod.fst hr', congrArg Prod.snd hr'⟩
                  conv => whnf
                  refine ⟨F1, [], [], ?_⟩
                  repeat' (first | exact trivial | exact .inl (DLe.refl _) | exact .inl (DLe.nil _ _) | (refine .inr ⟨rfl, _, ?_, rfl⟩; rfl) | exact rfl | exact Nat.zero_le _ | constructor)
          · conv => whnf
            refine ⟨?_, ?_, trivial⟩
            · conv => whnf
              refine CallVC.obs hd1 rfl rfl ?_
              rintro _ _ F1 ⟨rfl, rfl⟩
              refine ⟨?_, trivial⟩
              · conv => whnf
                refine ⟨?_, trivial⟩
                · conv => whnf
                  refine CallVC.cov (args1 := [.loc 1 0, .agg (enD x.e), intD x.n]) [(2, 3), (3, 2)] [] ⟨[(82, boolD r), (12, .loc 2 0), (11, intD k), (10, .loc 1 0), (9, .loc 0 0), (3, rowsT l)], rcH (.obj (.sep F1 (trA lo hi N S1 now))) x N now S, 4, ([], 0)⟩ ?_ ?_ (rkeep_vc _ _ _ x N now S x.e x.n (by omega) ⟨hp0, by omega⟩ rfl rfl (fun _ _ _ => rfl) fun r' S' hr' => ?_)
                  · repeat' (first | exact trivial | exact .inl (DLe.refl _) | exact .inl (DLe.nil _ _) | (refine .inr ⟨rfl, _, ?_, rfl⟩; rfl) | exact rfl | exact Nat.zero_le _ | constructor)
                  · repeat' (first | exact trivial | exact .inl (DLe.refl _) | exact .inl (DLe.nil _ _) | (refine .inr ⟨rfl, _, ?_, rfl⟩; rfl) | exact rfl | exact Nat.zero_le _ | constructor)
                  obtain ⟨rfl, rfl⟩ : r = r' ∧ S1 = S' := by rw [hr] at hr'; exact ⟨congrArg Prod.fst hr', congrArg Prod.snd hr'⟩
                  conv => whnf
                  refine ⟨F1, [], [], ?_⟩
                  repeat' (first | exact trivial | exact .inl (DLe.refl _) | exact .inl (DLe.nil _ _) | (refine .inr ⟨rfl, _, ?_, rfl⟩; rfl) | exact rfl | exact Nat.zero_le _ | constructor)
            · conv => whnf
              refine ⟨?_, trivial⟩
              · conv => whnf
                refine CallVC.obs hd1 rfl rfl ?_
                rintro _ _ F1 ⟨rfl, rfl⟩
                refine ⟨?_, trivial⟩
                · conv => whnf
                  refine CallVC.cov (args1 := [.loc 1 0, .agg (enD x.e), intD x.n]) [(2, 3), (3, 2)] [] ⟨[(82, boolD r), (12, .loc 2 0), (11, intD k), (10, .loc 1 0), (9, .loc 0 0), (3, rowsT l)], rcH (.obj (.sep F1 (trA lo hi N S1 now))) x N now S, 4, ([], 0)⟩ ?_ ?_ (rkeep_vc _ _ _ x N now S x.e x.n (by omega) ⟨hp0, by omega⟩ rfl rfl (fun _ _ _ => rfl) fun r' S' hr' => ?_)
                  · repeat' (first | exact trivial | exact .inl (DLe.refl _) | exact .inl (DLe.nil _ _) | (refine .inr ⟨rfl, _, ?_, rfl⟩; rfl) | exact rfl | exact Nat.zero_le _ | constructor)
                  · repeat' (first | exact trivial | exact .inl (DLe.refl _) | exact .inl (DLe.nil _ _) | (refine .inr ⟨rfl, _, ?_, rfl⟩; rfl) | exact rfl | exact Nat.zero_le _ | constructor)
                  obtain ⟨rfl, rfl⟩ : r = r' ∧ S1 = S' := by rw [hr] at hr'; exact ⟨congrArg Prod.fst hr', congrArg Prod.snd hr'⟩
                  conv => whnf
                  refine ⟨F1, [], [], ?_⟩
                  repeat' (first | exact trivial | exact .inl (DLe.refl _) | exact .inl (DLe.nil _ _) | (refine .inr ⟨rfl, _, ?_, rfl⟩; rfl) | exact rfl | exact Nat.zero_le _ | constructor)
          · conv => whnf
            refine ⟨?_, ?_, trivial⟩
            · conv => whnf
              refine CallVC.obs hd1 rfl rfl ?_
              rintro _ _ F1 ⟨rfl, rfl⟩
              refine ⟨?_, trivial⟩
              · conv => whnf
                refine ⟨?_, trivial⟩
                · conv => whnf
                  refine CallVC.cov (args1 := [.loc 1 0, .agg (enD x.e), intD x.n]) [(2, 3), (3, 2)] [] ⟨[(82, boolD r), (12, .loc 2 0), (11, intD k), (10, .loc 1 0), (9, .loc 0 0), (3, rowsT l)], rcH (.obj (.sep F1 (trA lo hi N S1 now))) x N now S, 4, ([], 0)⟩ ?_ ?_ (rkeep_vc _ _ _ x N now S x.e x.n (by omega) ⟨hp0, by omega⟩ rfl rfl (fun _ _ _ => rfl) fun r' S' hr' => ?_)
                  · repeat' (first | exact trivial | exact .inl (DLe.refl _) | exact .inl (DLe.nil _ _) | (refine .inr ⟨rfl, _, ?_, rfl⟩; rfl) | exact rfl | exact Nat.zero_le _ | constructor)
                  · repeat' (first | exact trivial | exact .inl (DLe.refl _) | exact .inl (DLe.nil _ _) | (refine .inr ⟨rfl, _, ?_, rfl⟩; rfl) | exact rfl | exact Nat.zero_le _ | constructor)
                  obtain ⟨rfl, rfl⟩ : r = r' ∧ S1 = S' := by rw [hr] at hr'; exact ⟨congrArg Prod.fst hr', congrArg Prod.snd hr'⟩
                  conv => whnf
                  refine ⟨F1, [], [], ?_⟩
                  repeat' (first | exact trivial | exact .inl (DLe.refl _) | exact .inl (DLe.nil _ _) | (refine .inr ⟨rfl, _, ?_, rfl⟩; rfl) | exact rfl | exact Nat.zero_le _ | constructor)
            · conv => whnf
              refine ⟨?_, trivial⟩
              · conv => whnf
                refine CallVC.obs hd1 rfl rfl ?_
                rintro _ _ F1 ⟨rfl, rfl⟩
                refine ⟨?_, trivial⟩
                · conv => whnf
                  refine CallVC.cov (args1 := [.loc 1 0, .agg (enD x.e), intD x.n]) [(2, 3), (3, 2)] [] ⟨[(82, boolD r), (12, .loc 2 0), (11, intD k), (10, .loc 1 0), (9, .loc 0 0), (3, rowsT l)], rcH (.obj (.sep F1 (trA lo hi N S1 now))) x N now S, 4, ([], 0)⟩ ?_ ?_ (rkeep_vc _ _ _ x N now S x.e x.n (by omega) ⟨hp0, by omega⟩ rfl rfl (fun _ _ _ => rfl) fun r' S' hr' => ?_)
                  · repeat' (first | exact trivial | exact .inl (DLe.refl _) | exact .inl (DLe.nil _ _) | (refine .inr ⟨rfl, _, ?_, rfl⟩; rfl) | exact rfl | exact Nat.zero_le _ | constructor)
                  · repeat' (first | exact trivial | exact .inl (DLe.refl _) | exact .inl (DLe.nil _ _) | (refine .inr ⟨rfl, _, ?_, rfl⟩; rfl) | exact rfl | exact Nat.zero_le _ | constructor)
                  obtain ⟨rfl, rfl⟩ : r = r' ∧ S1 = S' := by rw [hr] at hr'; exact ⟨congrArg Prod.fst hr', congrArg Prod.snd hr'⟩
                  conv => whnf
                  refine ⟨F1, [], [], ?_⟩
                  repeat' (first | exact trivial | exact .inl (DLe.refl _) | exact .inl (DLe.nil _ _) | (refine .inr ⟨rfl, _, ?_, rfl⟩; rfl) | exact rfl | exact Nat.zero_le _ | constructor)
        · conv => whnf
          refine ⟨?_, ?_, trivial⟩
          · conv => whnf
            refine ⟨?_, ?_, trivial⟩
            · conv => whnf
              refine CallVC.obs hd1 rfl rfl ?_
              rintro _ _ F1 ⟨rfl, rfl⟩
              refine ⟨?_, trivial⟩
              · conv => whnf
                refine ⟨?_, trivial⟩
                · conv => whnf
                  refine CallVC.cov (args1 := [.loc 1 0, .agg (enD x.e), intD x.n]) [(2, 3), (3, 2)] [] ⟨[(82, boolD r), (12, .loc 2 0), (11, intD k), (10, .loc 1 0), (9, .loc 0 0), (3, rowsT l)], rcH (.obj (.sep F1 (trA lo hi N S1 now))) x N now S, 4, ([], 0)⟩ ?_ ?_ (rkeep_vc _ _ _ x N now S x.e x.n (by omega) ⟨hp0, by omega⟩ rfl rfl (fun _ _ _ => rfl) fun r' S' hr' => ?_)
                  · repeat' (first | exact trivial | exact .inl (DLe.refl _) | exact .inl (DLe.nil _ _) | (refine .inr ⟨rfl, _, ?_, rfl⟩; rfl) | exact rfl | exact Nat.zero_le _ | constructor)
                  · repeat' (first | exact trivial | exact .inl (DLe.refl _) | exact .inl (DLe.nil _ _) | (refine .inr ⟨rfl, _, ?_, rfl⟩; rfl) | exact rfl | exact Nat.zero_le _ | constructor)
                  obtain ⟨rfl, rfl⟩ : r = r' ∧ S1 = S' := by rw [hr] at hr'; exact ⟨congrArg Prod.fst hr', congrArg Prod.snd hr'⟩
                  conv => whnf
                  refine ⟨F1, [], [], ?_⟩
                  repeat' (first | exact trivial | exact .inl (DLe.refl _) | exact .inl (DLe.nil _ _) | (refine .inr ⟨rfl, _, ?_, rfl⟩; rfl) | exact rfl | exact Nat.zero_le _ | constructor)
            · conv => whnf
              refine ⟨?_, trivial⟩
              · conv => whnf
                refine CallVC.obs hd1 rfl rfl ?_
                rintro _ _ F1 ⟨rfl, rfl⟩
                refine ⟨?_, trivial⟩
                · conv => whnf
                  refine CallVC.cov (args1 := [.loc 1 0, .agg (enD x.e), intD x.n]) [(2, 3), (3, 2)] [] ⟨[(82, boolD r), (12, .loc 2 0), (11, intD k), (10, .loc 1 0), (9, .loc 0 0), (3, rowsT l)], rcH (.obj (.sep F1 (trA lo hi N S1 now))) x N now S, 4, ([], 0)⟩ ?_ ?_ (rkeep_vc _ _ _ x N now S x.e x.n (by omega) ⟨hp0, by omega⟩ rfl rfl (fun _ _ _ => rfl) fun r' S' hr' => ?_)
                  · repeat' (first | exact trivial | exact .inl (DLe.refl _) | exact .inl (DLe.nil _ _) | (refine .inr ⟨rfl, _, ?_, rfl⟩; rfl) | exact rfl | exact Nat.zero_le _ | constructor)
                  · repeat' (first | exact trivial | exact .inl (DLe.refl _) | exact .inl (DLe.nil _ _) | (refine .inr ⟨rfl, _, ?_, rfl⟩; rfl) | exact rfl | exact Nat.zero_le _ | constructor)
                  obtain ⟨rfl, rfl⟩ : r = r' ∧ S1 = S' := by rw [hr] at hr'; exact ⟨congrArg Prod.fst hr', congrArg Prod.snd hr'⟩
                  conv => whnf
                  refine ⟨F1, [], [], ?_⟩
                  repeat' (first | exact trivial | exact .inl (DLe.refl _) | exact .inl (DLe.nil _ _) | (refine .inr ⟨rfl, _, ?_, rfl⟩; rfl) | exact rfl | exact Nat.zero_le _ | constructor)
          · conv => whnf
            refine ⟨?_, trivial⟩
            · conv => whnf
              refine ⟨?_, trivial⟩
              · conv => whnf
                refine CallVC.obs hd1 rfl rfl ?_
                rintro _ _ F1 ⟨rfl, rfl⟩
                refine ⟨?_, trivial⟩
                · conv => whnf
                  refine CallVC.cov (args1 := [.loc 1 0, .agg (enD x.e), intD x.n]) [(2, 3), (3, 2)] [] ⟨[(82, boolD r), (12, .loc 2 0), (11, intD k), (10, .loc 1 0), (9, .loc 0 0), (3, rowsT l)], rcH (.obj (.sep F1 (trA lo hi N S1 now))) x N now S, 4, ([], 0)⟩ ?_ ?_ (rkeep_vc _ _ _ x N now S x.e x.n (by omega) ⟨hp0, by omega⟩ rfl rfl (fun _ _ _ => rfl) fun r' S' hr' => ?_)
                  · repeat' (first | exact trivial | exact .inl (DLe.refl _) | exact .inl (DLe.nil _ _) | (refine .inr ⟨rfl, _, ?_, rfl⟩; rfl) | exact rfl | exact Nat.zero_le _ | constructor)
                  · repeat' (first | exact trivial | exact .inl (DLe.refl _) | exact .inl (DLe.nil _ _) | (refine .inr ⟨rfl, _, ?_, rfl⟩; rfl) | exact rfl | exact Nat.zero_le _ | constructor)
                  obtain ⟨rfl, rfl⟩ : r = r' ∧ S1 = S' := by rw [hr] at hr'; exact ⟨congrArg Prod.fst hr', congrArg Prod.snd hr'⟩
                  conv => whnf
                  refine ⟨F1, [], [], ?_⟩
                  repeat' (first | exact trivial | exact .inl (DLe.refl _) | exact .inl (DLe.nil _ _) | (refine .inr ⟨rfl, _, ?_, rfl⟩; rfl) | exact rfl | exact Nat.zero_le _ | constructor)
        · conv => whnf
          refine ⟨?_, ?_, trivial⟩
          · conv => whnf
            refine ⟨?_, ?_, trivial⟩
            · conv => whnf
              refine CallVC.obs hd1 rfl rfl ?_
              rintro _ _ F1 ⟨rfl, rfl⟩
              refine ⟨?_, trivial⟩
              · conv => whnf
                refine ⟨?_, trivial⟩
                · conv => whnf
                  refine CallVC.cov (args1 := [.loc 1 0, .agg (enD x.e), intD x.n]) [(2, 3), (3, 2)] [] ⟨[(82, boolD r), (12, .loc 2 0), (11, intD k), (10, .loc 1 0), (9, .loc 0 0), (3, rowsT l)], rcH (.obj (.sep F1 (trA lo hi N S1 now))) x N now S, 4, ([], 0)⟩ ?_ ?_ (rkeep_vc _ _ _ x N now S x.e x.n (by omega) ⟨hp0, by omega⟩ rfl rfl (fun _ _ _ => rfl) fun r' S' hr' => ?_)
                  · repeat' (first | exact trivial | exact .inl (DLe.refl _) | exact .inl (DLe.nil _ _) | (refine .inr ⟨rfl, _, ?_, rfl⟩; rfl) | exact rfl | exact Nat.zero_le _ | constructor)
                  · repeat' (first | exact trivial | exact .inl (DLe.refl _) | exact .inl (DLe.nil _ _) | (refine .inr ⟨rfl, _, ?_, rfl⟩; rfl) | exact rfl | exact Nat.zero_le _ | constructor)
                  obtain ⟨rfl, rfl⟩ : r = r' ∧ S1 = S' := by rw [hr] at hr'; exact ⟨congrArg Prod.fst hr', congrArg Prod.snd hr'⟩
                  conv => whnf
                  refine ⟨F1, [], [], ?_⟩
                  repeat' (first | exact trivial | exact .inl (DLe.refl _) | exact .inl (DLe.nil _ _) | (refine .inr ⟨rfl, _, ?_, rfl⟩; rfl) | exact rfl | exact Nat.zero_le _ | constructor)
            · conv => whnf
              refine ⟨?_, trivial⟩
              · conv => whnf
                refine CallVC.obs hd1 rfl rfl ?_
                rintro _ _ F1 ⟨rfl, rfl⟩
                refine ⟨?_, trivial⟩
                · conv => whnf
                  refine CallVC.cov (args1 := [.loc 1 0, .agg (enD x.e), intD x.n]) [(2, 3), (3, 2)] [] ⟨[(82, boolD r), (12, .loc 2 0), (11, intD k), (10, .loc 1 0), (9, .loc 0 0), (3, rowsT l)], rcH (.obj (.sep F1 (trA lo hi N S1 now))) x N now S, 4, ([], 0)⟩ ?_ ?_ (rkeep_vc _ _ _ x N now S x.e x.n (by omega) ⟨hp0, by omega⟩ rfl rfl (fun _ _ _ => rfl) fun r' S' hr' => ?_)
                  · repeat' (first | exact trivial | exact .inl (DLe.refl _) | exact .inl (DLe.nil _ _) | (refine .inr ⟨rfl, _, ?_, rfl⟩; rfl) | exact rfl | exact Nat.zero_le _ | constructor)
                  · repeat' (first | exact trivial | exact .inl (DLe.refl _) | exact .inl (DLe.nil _ _) | (refine .inr ⟨rfl, _, ?_, rfl⟩; rfl) | exact rfl | exact Nat.zero_le _ | constructor)
                  obtain ⟨rfl, rfl⟩ : r = r' ∧ S1 = S' := by rw [hr] at hr'; exact ⟨congrArg Prod.fst hr', congrArg Prod.snd hr'⟩
                  conv => whnf
                  refine ⟨F1, [], [], ?_⟩
                  repeat' (first | exact trivial | exact .inl (DLe.refl _) | exact .inl (DLe.nil _ _) | (refine .inr ⟨rfl, _, ?_, rfl⟩; rfl) | exact rfl | exact Nat.zero_le _ | constructor)
          · conv => whnf
            refine ⟨?_, trivial⟩
            · conv => whnf
              refine ⟨?_, trivial⟩
              · conv => whnf
                refine CallVC.obs hd1 rfl rfl ?_
                rintro _ _ F1 ⟨rfl, rfl⟩
                refine ⟨?_, trivial⟩
                · conv => whnf
                  refine CallVC.cov (args1 := [.loc 1 0, .agg (enD x.e), intD x.n]) [(2, 3), (3, 2)] [] ⟨[(82, boolD r), (12, .loc 2 0), (11, intD k), (10, .loc 1 0), (9, .loc 0 0), (3, rowsT l)], rcH (.obj (.sep F1 (trA lo hi N S1 now))) x N now S, 4, ([], 0)⟩ ?_ ?_ (rkeep_vc _ _ _ x N now S x.e x.n (by omega) ⟨hp0, by omega⟩ rfl rfl (fun _ _ _ => rfl) fun r' S' hr' => ?_)
                  · repeat' (first | exact trivial | exact .inl (DLe.refl _) | exact .inl (DLe.nil _ _) | (refine .inr ⟨rfl, _, ?_, rfl⟩; rfl) | exact rfl | exact Nat.zero_le _ | constructor)
                  · repeat' (first | exact trivial | exact .inl (DLe.refl _) | exact .inl (DLe.nil _ _) | (refine .inr ⟨rfl, _, ?_, rfl⟩; rfl) | exact rfl | exact Nat.zero_le _ | constructor)
                  obtain ⟨rfl, rfl⟩ : r = r' ∧ S1 = S' := by rw [hr] at hr'; exact ⟨congrArg Prod.fst hr', congrArg Prod.snd hr'⟩
                  conv => whnf
                  refine ⟨F1, [], [], ?_⟩
                  repeat' (first | exact trivial | exact .inl (DLe.refl _) | exact .inl (DLe.nil _ _) | (refine .inr ⟨rfl, _, ?_, rfl⟩; rfl) | exact rfl | exact Nat.zero_le _ | constructor)
      · conv => whnf
        refine ⟨?_, ?_, ?_, trivial⟩
        · conv => whnf
          refine ⟨?_, ?_, ?_, trivial⟩
          · conv => whnf
            refine CallVC.obs hd1 rfl rfl ?_
            rintro _ _ F1 ⟨rfl, rfl⟩
            refine ⟨?_, ?_, trivial⟩
            · conv => whnf
              refine ⟨?_, trivial⟩
              · conv => whnf
                refine ⟨?_, trivial⟩
                · conv => whnf
                  refine CallVC.cov (args1 := [.loc 1 0, .agg (enD x.e), intD x.n]) [(2, 3), (3, 2)] [] ⟨[(82, boolD r), (12, .loc 2 0), (11, intD k), (10, .loc 1 0), (9, .loc 0 0), (3, rowsT l)], rcH (.obj (.sep F1 (trA lo hi N S1 now))) x N now S, 4, ([], 0)⟩ ?_ ?_ (rkeep_vc _ _ _ x N now S x.e x.n (by omega) ⟨hp0, by omega⟩ rfl rfl (fun _ _ _ => rfl) fun r' S' hr' => ?_)
                  · repeat' (first | exact trivial | exact .inl (DLe.refl _) | exact .inl (DLe.nil _ _) | (refine .inr ⟨rfl, _, ?_, rfl⟩; rfl) | exact rfl | exact Nat.zero_le _ | constructor)
                  · repeat' (first | exact trivial | exact .inl (DLe.refl _) | exact .inl (DLe.nil _ _) | (refine .inr ⟨rfl, _, ?_, rfl⟩; rfl) | exact rfl | exact Nat.zero_le _ | constructor)
                  obtain ⟨rfl, rfl⟩ : r = r' ∧ S1 = S' := by rw [hr] at hr'; exact ⟨congrArg Prod.fst hr', congrArg Prod.snd hr'⟩
                  conv => whnf
                  refine ⟨F1, [], [], ?_⟩
                  repeat' (first | exact trivial | exact .inl (DLe.refl _) | exact .inl (DLe.nil _ _) | (refine .inr ⟨rfl, _, ?_, rfl⟩; rfl) | exact rfl | exact Nat.zero_le _ | constructor)
            · conv => whnf
              refine ⟨?_, trivial⟩
              · conv => whnf
                refine ⟨?_, trivial⟩
                · conv => whnf
                  refine CallVC.cov (args1 := [.loc 1 0, .agg (enD x.e), intD x.n]) [(2, 3), (3, 2)] [] ⟨[(82, boolD r), (12, .loc 2 0), (11, intD k), (10, .loc 1 0), (9, .loc 0 0), (3, rowsT l)], rcH (.obj (.sep F1 (trA lo hi N S1 now))) x N now S, 4, ([], 0)⟩ ?_ ?_ (rkeep_vc _ _ _ x N now S x.e x.n (by omega) ⟨hp0, by omega⟩ rfl rfl (fun _ _ _ => rfl) fun r' S' hr' => ?_)
                  · repeat' (first | exact trivial | exact .inl (DLe.refl _) | exact .inl (DLe.nil _ _) | (refine .inr ⟨rfl, _, ?_, rfl⟩; rfl) | exact rfl | exact Nat.zero_le _ | constructor)
                  · repeat' (first | exact trivial | exact .inl (DLe.refl _) | exact .inl (DLe.nil _ _) | (refine .inr ⟨rfl, _, ?_, rfl⟩; rfl) | exact rfl | exact Nat.zero_le _ | constructor)
                  obtain ⟨rfl, rfl⟩ : r = r' ∧ S1 = S' := by rw [hr] at hr'; exact ⟨congrArg Prod.fst hr', congrArg Prod.snd hr'⟩
                  conv => whnf
                  refine ⟨F1, [], [], ?_⟩
                  repeat' (first | exact trivial | exact .inl (DLe.refl _) | exact .inl (DLe.nil _ _) | (refine .inr ⟨rfl, _, ?_, rfl⟩; rfl) | exact rfl | exact Nat.zero_le _ | constructor)
          · conv => whnf
            refine ⟨?_, ?_, trivial⟩
            · conv => whnf
              refine CallVC.obs hd1 rfl rfl ?_
              rintro _ _ F1 ⟨rfl, rfl⟩
              refine ⟨?_, trivial⟩
              · conv => whnf
                refine ⟨?_, trivial⟩
                · conv => whnf
                  refine CallVC.cov (args1 := [.loc 1 0, .agg (enD x.e), intD x.n]) [(2, 3), (3, 2)] [] ⟨[(82, boolD r), (12, .loc 2 0), (11, intD k), (10, .loc 1 0), (9, .loc 0 0), (3, rowsT l)], rcH (.obj (.sep F1 (trA lo hi N S1 now))) x N now S, 4, ([], 0)⟩ ?_ ?_ (rkeep_vc _ _ _ x N now S x.e x.n (by omega) ⟨hp0, by omega⟩ rfl rfl (fun _ _ _ => rfl) fun r' S' hr' => ?_)
                  · repeat' (first | exact trivial | exact .inl (DLe.refl _) | exact .inl (DLe.nil _ _) | (refine .inr ⟨rfl, _, ?_, rfl⟩; rfl) | exact rfl | exact Nat.zero_le _ | constructor)
                  · repeat' (first | exact trivial | exact .inl (DLe.refl _) | exact .inl (DLe.nil _ _) | (refine .inr ⟨rfl, _, ?_, rfl⟩; rfl) | exact rfl | exact Nat.zero_le _ | constructor)
                  obtain ⟨rfl, rfl⟩ : r = r' ∧ S1 = S' := by rw [hr] at hr'; exact ⟨congrArg Prod.fst hr', congrArg Prod.snd hr'⟩
                  conv => whnf
                  refine ⟨F1, [], [], ?_⟩
                  repeat' (first | exact trivial | exact .inl (DLe.refl _) | exact .inl (DLe.nil _ _) | (refine .inr ⟨rfl, _, ?_, rfl⟩; rfl) | exact rfl | exact Nat.zero_le _ | constructor)
            · conv => whnf
              refine ⟨?_, trivial⟩
              · conv => whnf
                refine CallVC.obs hd1 rfl rfl ?_
                rintro _ _ F1 ⟨rfl, rfl⟩
                refine ⟨?_, trivial⟩
                · conv => whnf
                  refine CallVC.cov (args1 := [.loc 1 0, .agg (enD x.e), intD x.n]) [(2, 3), (3, 2)] [] ⟨[(82, boolD r), (12, .loc 2 0), (11, intD k), (10, .loc 1 0), (9, .loc 0 0), (3, rowsT l)], rcH (.obj (.sep F1 (trA lo hi N S1 now))) x N now S, 4, ([], 0)⟩ ?_ ?_ (rkeep_vc _ _ _ x N now S x.e x.n (by omega) ⟨hp0, by omega⟩ rfl rfl (fun _ _ _ => rfl) fun r' S' hr' => ?_)
                  · repeat' (first | exact trivial | exact .inl (DLe.refl _) | exact .inl (DLe.nil _ _) | (refine .inr ⟨rfl, _, ?_, rfl⟩; rfl) | exact rfl | exact Nat.zero_le _ | constructor)
                  · repeat' (first | exact trivial | exact .inl (DLe.refl _) | exact .inl (DLe.nil _ _) | (refine .inr ⟨rfl, _, ?_, rfl⟩; rfl) | exact rfl | exact Nat.zero_le _ | constructor)
                  obtain ⟨rfl, rfl⟩ : r = r' ∧ S1 = S' := by rw [hr] at hr'; exact ⟨congrArg Prod.fst hr', congrArg Prod.snd hr'⟩
                  conv => whnf
                  refine ⟨F1, [], [], ?_⟩
                  repeat' (first | exact trivial | exact .inl (DLe.refl _) | exact .inl (DLe.nil _ _) | (refine .inr ⟨rfl, _, ?_, rfl⟩; rfl) | exact rfl | exact Nat.zero_le _ | constructor)
          · conv => whnf
            refine ⟨?_, ?_, trivial⟩
            · conv => whnf
              refine CallVC.obs hd1 rfl rfl ?_
              rintro _ _ F1 ⟨rfl, rfl⟩
              refine ⟨?_, trivial⟩
              · conv => whnf
                refine ⟨?_, trivial⟩
                · conv => whnf
                  refine CallVC.cov (args1 := [.loc 1 0, .agg (enD x.e), intD x.n]) [(2, 3), (3, 2)] [] ⟨[(82, boolD r), (12, .loc 2 0), (11, intD k), (10, .loc 1 0), (9, .loc 0 0), (3, rowsT l)], rcH (.obj (.sep F1 (trA lo hi N S1 now))) x N now S, 4, ([], 0)⟩ ?_ ?_ (rkeep_vc _ _ _ x N now S x.e x.n (by omega) ⟨hp0, by omega⟩ rfl rfl (fun _ _ _ => rfl) fun r' S' hr' => ?_)
                  · repeat' (first | exact trivial | exact .inl (DLe.refl _) | exact .inl (DLe.nil _ _) | (refine .inr ⟨rfl, _, ?_, rfl⟩; rfl) | exact rfl | exact Nat.zero_le _ | constructor)
                  · repeat' (first | exact trivial | exact .inl (DLe.refl _) | exact .inl (DLe.nil _ _) | (refine .inr ⟨rfl, _, ?_, rfl⟩; rfl) | exact rfl | exact Nat.zero_le _ | constructor)
                  obtain ⟨rfl, rfl⟩ : r = r' ∧ S1 = S' := by rw [hr] at hr'; exact ⟨congrArg Prod.fst hr', congrArg Prod.snd hr'⟩
                  conv => whnf
                  refine ⟨F1, [], [], ?_⟩
                  repeat' (first | exact trivial | exact .inl (DLe.refl _) | exact .inl (DLe.nil _ _) | (refine .inr ⟨rfl, _, ?_, rfl⟩; rfl) | exact rfl | exact Nat.zero_le _ | constructor)
            · conv => whnf
              refine ⟨?_, trivial⟩
              · conv => whnf
                refine CallVC.obs hd1 rfl rfl ?_
                rintro _ _ F1 ⟨rfl, rfl⟩
                refine ⟨?_, trivial⟩
                · conv => whnf
                  refine CallVC.cov (args1 := [.loc 1 0, .agg (enD x.e), intD x.n]) [(2, 3), (3, 2)] [] ⟨[(82, boolD r), (12, .loc 2 0), (11, intD k), (10, .loc 1 0), (9, .loc 0 0), (3, rowsT l)], rcH (.obj (.sep F1 (trA lo hi N S1 now))) x N now S, 4, ([], 0)⟩ ?_ ?_ (rkeep_vc _ _ _ x N now S x.e x.n (by omega) ⟨hp0, by omega⟩ rfl rfl (fun _ _ _ => rfl) fun r' S' hr' => ?_)
                  · repeat' (first | exact trivial | exact .inl (DLe.refl _) | exact .inl (DLe.nil _ _) | (refine .inr ⟨rfl, _, ?_, rfl⟩; rfl) | exact rfl | exact Nat.zero_le _ | constructor)
                  · repeat' (first | exact trivial | exact .inl (DLe.refl _) | exact .inl (DLe.nil _ _) | (refine .inr ⟨rfl, _, ?_, rfl⟩; rfl) | exact rfl | exact Nat.zero_le _ | constructor)
                  obtain ⟨rfl, rfl⟩ : r = r' ∧ S1 = S' := by rw [hr] at hr'; exact ⟨congrArg Prod.fst hr', congrArg Prod.snd hr'⟩
                  conv => whnf
                  refine ⟨F1, [], [], ?_⟩
                  repeat' (first | exact trivial | exact .inl (DLe.refl _) | exact .inl (DLe.nil _ _) | (refine .inr ⟨rfl, _, ?_, rfl⟩; rfl) | exact rfl | exact Nat.zero_le _ | constructor)
        · conv => whnf
          refine ⟨?_, ?_, trivial⟩
          · conv => whnf
            refine ⟨?_, ?_, trivial⟩
            · conv => whnf
              refine CallVC.obs hd1 rfl rfl ?_
              rintro _ _ F1 ⟨rfl, rfl⟩
              refine ⟨?_, trivial⟩
              · conv => whnf
                refine ⟨?_, trivial⟩
                · conv => whnf
                  refine CallVC.cov (args1 := [.loc 1 0, .agg (enD x.e), intD x.n]) [(2, 3), (3, 2)] [] ⟨[(82, boolD r), (12, .loc 2 0), (11, intD k), (10, .loc 1 0), (9, .loc 0 0), (3, rowsT l)], rcH (.obj (.sep F1 (trA lo hi N S1 now))) x N now S, 4, ([], 0)⟩ ?_ ?_ (rkeep_vc _ _ _ x N now S x.e x.n (by omega) ⟨hp0, by omega⟩ rfl rfl (fun _ _ _ => rfl) fun r' S' hr' => ?_)
                  · repeat' (first | exact trivial | exact .inl (DLe.refl _) | exact .inl (DLe.nil _ _) | (refine .inr ⟨rfl, _, ?_, rfl⟩; rfl) | exact rfl | exact Nat.zero_le _ | constructor)
                  · repeat' (first | exact trivial | exact .inl (DLe.refl _) | exact .inl (DLe.nil _ _) | (refine .inr ⟨rfl, _, ?_, rfl⟩; rfl) | exact rfl | exact Nat.zero_le _ | constructor)
                  obtain ⟨rfl, rfl⟩ : r = r' ∧ S1 = S' := by rw [hr] at hr'; exact ⟨congrArg Prod.fst hr', congrArg Prod.snd hr'⟩
                  conv => whnf
                  refine ⟨F1, [], [], ?_⟩
                  repeat' (first | exact trivial | exact .inl (DLe.refl _) | exact .inl (DLe.nil _ _) | (refine .inr ⟨rfl, _, ?_, rfl⟩; rfl) | exact rfl | exact Nat.zero_le _ | constructor)
            · conv => whnf
              refine ⟨?_, trivial⟩
              · conv => whnf
                refine CallVC.obs hd1 rfl rfl ?_
                rintro _ _ F1 ⟨rfl, rfl⟩
                refine ⟨?_, trivial⟩
                · conv => whnf
                  refine CallVC.cov (args1 := [.loc 1 0, .agg (enD x.e), intD x.n]) [(2, 3), (3, 2)] [] ⟨[(82, boolD r), (12, .loc 2 0), (11, intD k), (10, .loc 1 0), (9, .loc 0 0), (3, rowsT l)], rcH (.obj (.sep F1 (trA lo hi N S1 now))) x N now S, 4, ([], 0)⟩ ?_ ?_ (rkeep_vc _ _ _ x N now S x.e x.n (by omega) ⟨hp0, by omega⟩ rfl rfl (fun _ _ _ => rfl) fun r' S' hr' => ?_)
                  · repeat' (first | exact trivial | exact .inl (DLe.refl _) | exact .inl (DLe.nil _ _) | (refine .inr ⟨rfl, _, ?_, rfl⟩; rfl) | exact rfl | exact Nat.zero_le _ | constructor)
                  · repeat' (first | exact trivial | exact .inl (DLe.refl _) | exact .inl (DLe.nil _ _) | (refine .inr ⟨rfl, _, ?_, rfl⟩; rfl) | exact rfl | exact Nat.zero_le _ | constructor)
                  obtain ⟨rfl, rfl⟩ : r = r' ∧ S1 = S' := by rw [hr] at hr'; exact ⟨congrArg Prod.fst hr', congrArg Prod.snd hr'⟩
                  conv => whnf
                  refine ⟨F1, [], [], ?_⟩
                  repeat' (first | exact trivial | exact .inl (DLe.refl _) | exact .inl (DLe.nil _ _) | (refine .inr ⟨rfl, _, ?_, rfl⟩; rfl) | exact rfl | exact Nat.zero_le _ | constructor)
          · conv => whnf
            refine ⟨?_, trivial⟩
            · conv => whnf
              refine ⟨?_, trivial⟩
              · conv => whnf
                refine CallVC.obs hd1 rfl rfl ?_
                rintro _ _ F1 ⟨rfl, rfl⟩
                refine ⟨?_, trivial⟩
                · conv => whnf
                  refine CallVC.cov (args1 := [.loc 1 0, .agg (enD x.e), intD x.n]) [(2, 3), (3, 2)] [] ⟨[(82, boolD r), (12, .loc 2 0), (11, intD k), (10, .loc 1 0), (9, .loc 0 0), (3, rowsT l)], rcH (.obj (.sep F1 (trA lo hi N S1 now))) x N now S, 4, ([], 0)⟩ ?_ ?_ (rkeep_vc _ _ _ x N now S x.e x.n (by omega) ⟨hp0, by omega⟩ rfl rfl (fun _ _ _ => rfl) fun r' S' hr' => ?_)
                  · repeat' (first | exact trivial | exact .inl (DLe.refl _) | exact .inl (DLe.nil _ _) | (refine .inr ⟨rfl, _, ?_, rfl⟩; rfl) | exact rfl | exact Nat.zero_le _ | constructor)
                  · repeat' (first | exact trivial | exact .inl (DLe.refl _) | exact .inl (DLe.nil _ _) | (refine .inr ⟨rfl, _, ?_, rfl⟩; rfl) | exact rfl | exact Nat.zero_le _ | constructor)
                  obtain ⟨rfl, rfl⟩ : r = r' ∧ S1 = S' := by rw [hr] at hr'; exact ⟨congrArg Prod.fst hr', congrArg Prod.snd hr'⟩
                  conv => whnf
                  refine ⟨F1, [], [], ?_⟩
                  repeat' (first | exact trivial | exact .inl (DLe.refl _) | exact .inl (DLe.nil _ _) | (refine .inr ⟨rfl, _, ?_, rfl⟩; rfl) | exact rfl | exact Nat.zero_le _ | constructor)
        · conv => whnf
          refine ⟨?_, ?_, trivial⟩
          · conv => whnf
            refine ⟨?_, ?_, trivial⟩
            · conv => whnf
              refine CallVC.obs hd1 rfl rfl ?_
              rintro _ _ F1 ⟨rfl, rfl⟩
              refine ⟨?_, trivial⟩
              · conv => whnf
                refine ⟨?_, trivial⟩
                · conv => whnf
                  refine CallVC.cov (args1 := [.loc 1 0, .agg (enD x.e), intD x.n]) [(2, 3), (3, 2)] [] ⟨[(82, boolD r), (12, .loc 2 0), (11, intD k), (10, .loc 1 0), (9, .loc 0 0), (3, rowsT l)], rcH (.obj (.sep F1 (trA lo hi N S1 now))) x N now S, 4, ([], 0)⟩ ?_ ?_ (rkeep_vc _ _ _ x N now S x.e x.n (by omega) ⟨hp0, by omega⟩ rfl rfl (fun _ _ _ => rfl) fun r' S' hr' => ?_)
                  · repeat' (first | exact trivial | exact .inl (DLe.refl _) | exact .inl (DLe.nil _ _) | (refine .inr ⟨rfl, _, ?_, rfl⟩; rfl) | exact rfl | exact Nat.zero_le _ | constructor)
                  · repeat' (first | exact trivial | exact .inl (DLe.refl _) | exact .inl (DLe.nil _ _) | (refine .inr ⟨rfl, _, ?_, rfl⟩; rfl) | exact rfl | exact Nat.zero_le _ | constructor)
                  obtain ⟨rfl, rfl⟩ : r = r' ∧ S1 = S' := by rw [hr] at hr'; exact ⟨congrArg Prod.fst hr', congrArg Prod.snd hr'⟩
                  conv => whnf
                  refine ⟨F1, [], [], ?_⟩
                  repeat' (first | exact trivial | exact .inl (DLe.refl _) | exact .inl (DLe.nil _ _) | (refine .inr ⟨rfl, _, ?_, rfl⟩; rfl) | exact rfl | exact Nat.zero_le _ | constructor)
            · conv => whnf
              refine ⟨?_, trivial⟩
              · conv => whnf
                refine CallVC.obs hd1 rfl rfl ?_
                rintro _ _ F1 ⟨rfl, rfl⟩
                refine ⟨?_, trivial⟩
                · conv => whnf
                  refine CallVC.cov (args1 := [.loc 1 0, .agg (enD x.e), intD x.n]) [(2, 3), (3, 2)] [] ⟨[(82, boolD r), (12, .loc 2 0), (11, intD k), (10, .loc 1 0), (9, .loc 0 0), (3, rowsT l)], rcH (.obj (.sep F1 (trA lo hi N S1 now))) x N now S, 4, ([], 0)⟩ ?_ ?_ (rkeep_vc _ _ _ x N now S x.e x.n (by omega) ⟨hp0, by omega⟩ rfl rfl (fun _ _ _ => rfl) fun r' S' hr' => ?_)
                  · repeat' (first | exact trivial | exact .inl (DLe.refl _) | exact .inl (DLe.nil _ _) | (refine .inr ⟨rfl, _, ?_, rfl⟩; rfl) | exact rfl | exact Nat.zero_le _ | constructor)
                  · repeat' (first | exact trivial | exact .inl (DLe.refl _) | exact .inl (DLe.nil _ _) | (refine .inr ⟨rfl, _, ?_, rfl⟩; rfl) | exact rfl | exact Nat.zero_le _ | constructor)
                  obtain ⟨rfl, rfl⟩ : r = r' ∧ S1 = S' := by rw [hr] at hr'; exact ⟨congrArg Prod.fst hr', congrArg Prod.snd hr'⟩
                  conv => whnf
                  refine ⟨F1, [], [], ?_⟩
                  repeat' (first | exact trivial | exact .inl (DLe.refl _) | exact .inl (DLe.nil _ _) | (refine .inr ⟨rfl, _, ?_, rfl⟩; rfl) | exact rfl | exact Nat.zero_le _ | constructor)
          · conv => whnf
            refine ⟨?_, trivial⟩
            · conv => whnf
              refine ⟨?_, trivial⟩
              · conv => whnf
                refine CallVC.obs hd1 rfl rfl ?_
                rintro _ _ F1 ⟨rfl, rfl⟩
                refine ⟨?_, trivial⟩
                · conv => whnf
                  refine CallVC.cov (args1 := [.loc 1 0, .agg (enD x.e), intD x.n]) [(2, 3), (3, 2)] [] ⟨[(82, boolD r), (12, .loc 2 0), (11, intD k), (10, .loc 1 0), (9, .loc 0 0), (3, rowsT l)], rcH (.obj (.sep F1 (trA lo hi N S1 now))) x N now S, 4, ([], 0)⟩ ?_ ?_ (rkeep_vc _ _ _ x N now S x.e x.n (by omega) ⟨hp0, by omega⟩ rfl rfl (fun _ _ _ => rfl) fun r' S' hr' => ?_)
                  · repeat' (first | exact trivial | exact .inl (DLe.refl _) | exact .inl (DLe.nil _ _) | (refine .inr ⟨rfl, _, ?_, rfl⟩; rfl) | exact rfl | exact Nat.zero_le _ | constructor)
                  · repeat' (first | exact trivial | exact .inl (DLe.refl _) | exact .inl (DLe.nil _ _) | (refine .inr ⟨rfl, _, ?_, rfl⟩; rfl) | exact rfl | exact Nat.zero_le _ | constructor)
                  obtain ⟨rfl, rfl⟩ : r = r' ∧ S1 = S' := by rw [hr] at hr'; exact ⟨congrArg Prod.fst hr', congrArg Prod.snd hr'⟩
                  conv => whnf
                  refine ⟨F1, [], [], ?_⟩
                  repeat' (first | exact trivial | exact .inl (DLe.refl _) | exact .inl (DLe.nil _ _) | (refine .inr ⟨rfl, _, ?_, rfl⟩; rfl) | exact rfl | exact Nat.zero_le _ | constructor)
      · conv => whnf
        refine ⟨?_, ?_, ?_, trivial⟩
        · conv => whnf
          refine ⟨?_, ?_, trivial⟩
          · conv => whnf
            refine ⟨?_, ?_, trivial⟩
            · conv => whnf
              refine CallVC.obs hd1 rfl rfl ?_
              rintro _ _ F1 ⟨rfl, rfl⟩
              refine ⟨?_, trivial⟩
              · conv => whnf
                refine ⟨?_, trivial⟩
                · conv => whnf
                  refine CallVC.cov (args1 := [.loc 1 0, .agg (enD x.e), intD x.n]) [(2, 3), (3, 2)] [] ⟨[(82, boolD r), (12, .loc 2 0), (11, intD k), (10, .loc 1 0), (9, .loc 0 0), (3, rowsT l)], rcH (.obj (.sep F1 (trA lo hi N S1 now))) x N now S, 4, ([], 0)⟩ ?_ ?_ (rkeep_vc _ _ _ x N now S x.e x.n (by omega) ⟨hp0, by omega⟩ rfl rfl (fun _ _ _ => rfl) fun r' S' hr' => ?_)
                  · repeat' (first | exact trivial | exact .inl (DLe.refl _) | exact .inl (DLe.nil _ _) | (refine .inr ⟨rfl, _, ?_, rfl⟩; rfl) | exact rfl | exact Nat.zero_le _ | constructor)
                  · repeat' (first | exact trivial | exact .inl (DLe.refl _) | exact .inl (DLe.nil _ _) | (refine .inr ⟨rfl, _, ?_, rfl⟩; rfl) | exact rfl | exact Nat.zero_le _ | constructor)
                  obtain ⟨rfl, rfl⟩ : r = r' ∧ S1 = S' := by rw [hr] at hr'; exact ⟨congrArg Prod.fst hr', congrArg Prod.snd hr'⟩
                  conv => whnf
                  refine ⟨F1, [], [], ?_⟩
                  repeat' (first | exact trivial | exact .inl (DLe.refl _) | exact .inl (DLe.nil _ _) | (refine .inr ⟨rfl, _, ?_, rfl⟩; rfl) | exact rfl | exact Nat.zero_le _ | constructor)
            · conv => whnf
              refine ⟨?_, trivial⟩
              · conv => whnf
                refine CallVC.obs hd1 rfl rfl ?_
                rintro _ _ F1 ⟨rfl, rfl⟩
                refine ⟨?_, trivial⟩
                · conv => whnf
                  refine CallVC.cov (args1 := [.loc 1 0, .agg (enD x.e), intD x.n]) [(2, 3), (3, 2)] [] ⟨[(82, boolD r), (12, .loc 2 0), (11, intD k), (10, .loc 1 0), (9, .loc 0 0), (3, rowsT l)], rcH (.obj (.sep F1 (trA lo hi N S1 now))) x N now S, 4, ([], 0)⟩ ?_ ?_ (rkeep_vc _ _ _ x N now S x.e x.n (by omega) ⟨hp0, by omega⟩ rfl rfl (fun _ _ _ => rfl) fun r' S' hr' => ?_)
                  · repeat' (first | exact trivial | exact .inl (DLe.refl _) | exact .inl (DLe.nil _ _) | (refine .inr ⟨rfl, _, ?_, rfl⟩; rfl) | exact rfl | exact Nat.zero_le _ | constructor)
                  · repeat' (first | exact trivial | exact .inl (DLe.refl _) | exact .inl (DLe.nil _ _) | (refine .inr ⟨rfl, _, ?_, rfl⟩; rfl) | exact rfl | exact Nat.zero_le _ | constructor)
                  obtain ⟨rfl, rfl⟩ : r = r' ∧ S1 = S' := by rw [hr] at hr'; exact ⟨congrArg Prod.fst hr', congrArg Prod.snd hr'⟩
                  conv => whnf
                  refine ⟨F1, [], [], ?_⟩
                  repeat' (first | exact trivial | exact .inl (DLe.refl _) | exact .inl (DLe.nil _ _) | (refine .inr ⟨rfl, _, ?_, rfl⟩; rfl) | exact rfl | exact Nat.zero_le _ | constructor)
          · conv => whnf
            refine ⟨?_, trivial⟩
            · conv => whnf
              refine ⟨?_, trivial⟩
              · conv => whnf
                refine CallVC.obs hd1 rfl rfl ?_
                rintro _ _ F1 ⟨rfl, rfl⟩
                refine ⟨?_, trivial⟩
                · conv => whnf
                  refine CallVC.cov (args1 := [.loc 1 0, .agg (enD x.e), intD x.n]) [(2, 3), (3, 2)] [] ⟨[(82, boolD r), (12, .loc 2 0), (11, intD k), (10, .loc 1 0), (9, .loc 0 0), (3, rowsT l)], rcH (.obj (.sep F1 (trA lo hi N S1 now))) x N now S, 4, ([], 0)⟩ ?_ ?_ (rkeep_vc _ _ _ x N now S x.e x.n (by omega) ⟨hp0, by omega⟩ rfl rfl (fun _ _ _ => rfl) fun r' S' hr' => ?_)
                  · repeat' (first | exact trivial | exact .inl (DLe.refl _) | exact .inl (DLe.nil _ _) | (refine .inr ⟨rfl, _, ?_, rfl⟩; rfl) | exact rfl | exact Nat.zero_le _ | constructor)
                  · repeat' (first | exact trivial | exact .inl (DLe.refl _) | exact .inl (DLe.nil _ _) | (refine .inr ⟨rfl, _, ?_, rfl⟩; rfl) | exact rfl | exact Nat.zero_le _ | constructor)
                  obtain ⟨rfl, rfl⟩ : r = r' ∧ S1 = S' := by rw [hr] at hr'; exact ⟨congrArg Prod.fst hr', congrArg Prod.snd hr'⟩
                  conv => whnf
                  refine ⟨F1, [], [], ?_⟩
                  repeat' (first | exact trivial | exact .inl (DLe.refl _) | exact .inl (DLe.nil _ _) | (refine .inr ⟨rfl, _, ?_, rfl⟩; rfl) | exact rfl | exact Nat.zero_le _ | constructor)
        · conv => whnf
          refine ⟨?_, ?_, trivial⟩
          · conv => whnf
            refine ⟨?_, ?_, trivial⟩
            · conv => whnf
              refine CallVC.obs hd1 rfl rfl ?_
              rintro _ _ F1 ⟨rfl, rfl⟩
              refine ⟨?_, trivial⟩
              · conv => whnf
                refine ⟨?_, trivial⟩
                · conv => whnf
                  refine CallVC.cov (args1 := [.loc 1 0, .agg (enD x.e), intD x.n]) [(2, 3), (3, 2)] [] ⟨[(82, boolD r), (12, .loc 2 0), (11, intD k), (10, .loc 1 0), (9, .loc 0 0), (3, rowsT l)], rcH (.obj (.sep F1 (trA lo hi N S1 now))) x N now S, 4, ([], 0)⟩ ?_ ?_ (rkeep_vc _ _ _ x N now S x.e x.n (by omega) ⟨hp0, by omega⟩ rfl rfl (fun _ _ _ => rfl) fun r' S' hr' => ?_)
                  · repeat' (first | exact trivial | exact .inl (DLe.refl _) | exact .inl (DLe.nil _ _) | (refine .inr ⟨rfl, _, ?_, rfl⟩; rfl) | exact rfl | exact Nat.zero_le _ | constructor)
                  · repeat' (first | exact trivial | exact .inl (DLe.refl _) | exact .inl (DLe.nil _ _) | (refine .inr ⟨rfl, _, ?_, rfl⟩; rfl) | exact rfl | exact Nat.zero_le _ | constructor)
                  obtain ⟨rfl, rfl⟩ : r = r' ∧ S1 = S' := by rw [hr] at hr'; exact ⟨congrArg Prod.fst hr', congrArg Prod.snd hr'⟩
                  conv => whnf
                  refine ⟨F1, [], [], ?_⟩
                  repeat' (first | exact trivial | exact .inl (DLe.refl _) | exact .inl (DLe.nil _ _) | (refine .inr ⟨rfl, _, ?_, rfl⟩; rfl) | exact rfl | exact Nat.zero_le _ | constructor)
            · conv => whnf
              refine ⟨?_, trivial⟩
              · conv => whnf
                refine CallVC.obs hd1 rfl rfl ?_
                rintro _ _ F1 ⟨rfl, rfl⟩
                refine ⟨?_, trivial⟩
                · conv => whnf
                  refine CallVC.cov (args1 := [.loc 1 0, .agg (enD x.e), intD x.n]) [(2, 3), (3, 2)] [] ⟨[(82, boolD r), (12, .loc 2 0), (11, intD k), (10, .loc 1 0), (9, .loc 0 0), (3, rowsT l)], rcH (.obj (.sep F1 (trA lo hi N S1 now))) x N now S, 4, ([], 0)⟩ ?_ ?_ (rkeep_vc _ _ _ x N now S x.e x.n (by omega) ⟨hp0, by omega⟩ rfl rfl (fun _ _ _ => rfl) fun r' S' hr' => ?_)
                  · repeat' (first | exact trivial | exact .inl (DLe.refl _) | exact .inl (DLe.nil _ _) | (refine .inr ⟨rfl, _, ?_, rfl⟩; rfl) | exact rfl | exact Nat.zero_le _ | constructor)
                  · repeat' (first | exact trivial | exact .inl (DLe.refl _) | exact .inl (DLe.nil _ _) | (refine .inr ⟨rfl, _, ?_, rfl⟩; rfl) | exact rfl | exact Nat.zero_le _ | constructor)
                  obtain ⟨rfl, rfl⟩ : r = r' ∧ S1 = S' := by rw [hr] at hr'; exact ⟨congrArg Prod.fst hr', congrArg Prod.snd hr'⟩
                  conv => whnf
                  refine ⟨F1, [], [], ?_⟩
                  repeat' (first | exact trivial | exact .inl (DLe.refl _) | exact .inl (DLe.nil _ _) | (refine .inr ⟨rfl, _, ?_, rfl⟩; rfl) | exact rfl | exact Nat.zero_le _ | constructor)
          · conv => whnf
            refine ⟨?_, trivial⟩
            · conv => whnf
              refine ⟨?_, trivial⟩
              · conv => whnf
                refine CallVC.obs hd1 rfl rfl ?_
                rintro _ _ F1 ⟨rfl, rfl⟩
                refine ⟨?_, trivial⟩
                · conv => whnf
                  refine CallVC.cov (args1 := [.loc 1 0, .agg (enD x.e), intD x.n]) [(2, 3), (3, 2)] [] ⟨[(82, boolD r), (12, .loc 2 0), (11, intD k), (10, .loc 1 0), (9, .loc 0 0), (3, rowsT l)], rcH (.obj (.sep F1 (trA lo hi N S1 now))) x N now S, 4, ([], 0)⟩ ?_ ?_ (rkeep_vc _ _ _ x N now S x.e x.n (by omega) ⟨hp0, by omega⟩ rfl rfl (fun _ _ _ => rfl) fun r' S' hr' => ?_)
                  · repeat' (first | exact trivial | exact .inl (DLe.refl _) | exact .inl (DLe.nil _ _) | (refine .inr ⟨rfl, _, ?_, rfl⟩; rfl) | exact rfl | exact Nat.zero_le _ | constructor)
                  · repeat' (first | exact trivial | exact .inl (DLe.refl _) | exact .inl (DLe.nil _ _) | (refine .inr ⟨rfl, _, ?_, rfl⟩; rfl) | exact rfl | exact Nat.zero_le _ | constructor)
                  obtain ⟨rfl, rfl⟩ : r = r' ∧ S1 = S' := by rw [hr] at hr'; exact ⟨congrArg Prod.fst hr', congrArg Prod.snd hr'⟩
                  conv => whnf
                  refine ⟨F1, [], [], ?_⟩
                  repeat' (first | exact trivial | exact .inl (DLe.refl _) | exact .inl (DLe.nil _ _) | (refine .inr ⟨rfl, _, ?_, rfl⟩; rfl) | exact rfl | exact Nat.zero_le _ | constructor)
        · conv => whnf
          refine ⟨?_, ?_, trivial⟩
          · conv => whnf
            refine ⟨?_, trivial⟩
            · conv => whnf
              refine ⟨?_, trivial⟩
              · conv => whnf
                refine CallVC.obs hd1 rfl rfl ?_
                rintro _ _ F1 ⟨rfl, rfl⟩
                refine ⟨?_, trivial⟩
                · conv => whnf
                  refine CallVC.cov (args1 := [.loc 1 0, .agg (enD x.e), intD x.n]) [(2, 3), (3, 2)] [] ⟨[(82, boolD r), (12, .loc 2 0), (11, intD k), (10, .loc 1 0), (9, .loc 0 0), (3, rowsT l)], rcH (.obj (.sep F1 (trA lo hi N S1 now))) x N now S, 4, ([], 0)⟩ ?_ ?_ (rkeep_vc _ _ _ x N now S x.e x.n (by omega) ⟨hp0, by omega⟩ rfl rfl (fun _ _ _ => rfl) fun r' S' hr' => ?_)
                  · repeat' (first | exact trivial | exact .inl (DLe.refl _) | exact .inl (DLe.nil _ _) | (refine .inr ⟨rfl, _, ?_, rfl⟩; rfl) | exact rfl | exact Nat.zero_le _ | constructor)
                  · repeat' (first | exact trivial | exact .inl (DLe.refl _) | exact .inl (DLe.nil _ _) | (refine .inr ⟨rfl, _, ?_, rfl⟩; rfl) | exact rfl | exact Nat.zero_le _ | constructor)
                  obtain ⟨rfl, rfl⟩ : r = r' ∧ S1 = S' := by rw [hr] at hr'; exact ⟨congrArg Prod.fst hr', congrArg Prod.snd hr'⟩
                  conv => whnf
                  refine ⟨F1, [], [], ?_⟩
                  repeat' (first | exact trivial | exact .inl (DLe.refl _) | exact .inl (DLe.nil _ _) | (refine .inr ⟨rfl, _, ?_, rfl⟩; rfl) | exact rfl | exact Nat.zero_le _ | constructor)
          · conv => whnf
            refine ⟨?_, trivial⟩
            · conv => whnf
              refine ⟨?_, trivial⟩
              · conv => whnf
                refine CallVC.obs hd1 rfl rfl ?_
                rintro _ _ F1 ⟨rfl, rfl⟩
                refine ⟨?_, trivial⟩
                · conv => whnf
                  refine CallVC.cov (args1 := [.loc 1 0, .agg (enD x.e), intD x.n]) [(2, 3), (3, 2)] [] ⟨[(82, boolD r), (12, .loc 2 0), (11, intD k), (10, .loc 1 0), (9, .loc 0 0), (3, rowsT l)], rcH (.obj (.sep F1 (trA lo hi N S1 now))) x N now S, 4, ([], 0)⟩ ?_ ?_ (rkeep_vc _ _ _ x N now S x.e x.n (by omega) ⟨hp0, by omega⟩ rfl rfl (fun _ _ _ => rfl) fun r' S' hr' => ?_)
                  · repeat' (first | exact trivial | exact .inl (DLe.refl _) | exact .inl (DLe.nil _ _) | (refine .inr ⟨rfl, _, ?_, rfl⟩; rfl) | exact rfl | exact Nat.zero_le _ | constructor)
                  · repeat' (first | exact trivial | exact .inl (DLe.refl _) | exact .inl (DLe.nil _ _) | (refine .inr ⟨rfl, _, ?_, rfl⟩; rfl) | exact rfl | exact Nat.zero_le _ | constructor)
                  obtain ⟨rfl, rfl⟩ : r = r' ∧ S1 = S' := by rw [hr] at hr'; exact ⟨congrArg Prod.fst hr', congrArg Prod.snd hr'⟩
                  conv => whnf
                  refine ⟨F1, [], [], ?_⟩
                  repeat' (first | exact trivial | exact .inl (DLe.refl _) | exact .inl (DLe.nil _ _) | (refine .inr ⟨rfl, _, ?_, rfl⟩; rfl) | exact rfl | exact Nat.zero_le _ | constructor)
      · conv => whnf
        refine ⟨?_, ?_, ?_, trivial⟩
        · conv => whnf
          refine ⟨?_, ?_, trivial⟩
          · conv => whnf
            refine ⟨?_, ?_, trivial⟩
            · conv => whnf
              refine CallVC.obs hd1 rfl rfl ?_
              rintro _ _ F1 ⟨rfl, rfl⟩
              refine ⟨?_, trivial⟩
              · conv => whnf
                refine ⟨?_, trivial⟩
                · conv => whnf
                  refine CallVC.cov (args1 := [.loc 1 0, .agg (enD x.e), intD x.n]) [(2, 3), (3, 2)] [] ⟨[(82, boolD r), (12, .loc 2 0), (11, intD k), (10, .loc 1 0), (9, .loc 0 0), (3, rowsT l)], rcH (.obj (.sep F1 (trA lo hi N S1 now))) x N now S, 4, ([], 0)⟩ ?_ ?_ (rkeep_vc _ _ _ x N now S x.e x.n (by omega) ⟨hp0, by omega⟩ rfl rfl (fun _ _ _ => rfl) fun r' S' hr' => ?_)
                  · repeat' (first | exact trivial | exact .inl (DLe.refl _) | exact .inl (DLe.nil _ _) | (refine .inr ⟨rfl, _, ?_, rfl⟩; rfl) | exact rfl | exact Nat.zero_le _ | constructor)
                  · repeat' (first | exact trivial | exact .inl (DLe.refl _) | exact .inl (DLe.nil _ _) | (refine .inr ⟨rfl, _, ?_, rfl⟩; rfl) | exact rfl | exact Nat.zero_le _ | constructor)
                  obtain ⟨rfl, rfl⟩ : r = r' ∧ S1 = S' := by rw [hr] at hr'; exact ⟨congrArg Prod.fst hr', congrArg Prod.snd hr'⟩
                  conv => whnf
                  refine ⟨F1, [], [], ?_⟩
                  repeat' (first | exact trivial | exact .inl (DLe.refl _) | exact .inl (DLe.nil _ _) | (refine .inr ⟨rfl, _, ?_, rfl⟩; rfl) | exact rfl | exact Nat.zero_le _ | constructor)
            · conv => whnf
              refine ⟨?_, trivial⟩
              · conv => whnf
                refine CallVC.obs hd1 rfl rfl ?_
                rintro _ _ F1 ⟨rfl, rfl⟩
                refine ⟨?_, trivial⟩
                · conv => whnf
                  refine CallVC.cov (args1 := [.loc 1 0, .agg (enD x.e), intD x.n]) [(2, 3), (3, 2)] [] ⟨[(82, boolD r), (12, .loc 2 0), (11, intD k), (10, .loc 1 0), (9, .loc 0 0), (3, rowsT l)], rcH (.obj (.sep F1 (trA lo hi N S1 now))) x N now S, 4, ([], 0)⟩ ?_ ?_ (rkeep_vc _ _ _ x N now S x.e x.n (by omega) ⟨hp0, by omega⟩ rfl rfl (fun _ _ _ => rfl) fun r' S' hr' => ?_)
                  · repeat' (first | exact trivial | exact .inl (DLe.refl _) | exact .inl (DLe.nil _ _) | (refine .inr ⟨rfl, _, ?_, rfl⟩; rfl) | exact rfl | exact Nat.zero_le _ | constructor)
                  · repeat' (first | exact trivial | exact .inl (DLe.refl _) | exact .inl (DLe.nil _ _) | (refine .inr ⟨rfl, _, ?_, rfl⟩; rfl) | exact rfl | exact Nat.zero_le _ | constructor)
                  obtain ⟨rfl, rfl⟩ : r = r' ∧ S1 = S' := by rw [hr] at hr'; exact ⟨congrArg Prod.fst hr', congrArg Prod.snd hr'⟩
                  conv => whnf
                  refine ⟨F1, [], [], ?_⟩
                  repeat' (first | exact trivial | exact .inl (DLe.refl _) | exact .inl (DLe.nil _ _) | (refine .inr ⟨rfl, _, ?_, rfl⟩; rfl) | exact rfl | exact Nat.zero_le _ | constructor)
          · conv => whnf
            refine ⟨?_, trivial⟩
            · conv => whnf
              refine ⟨?_, trivial⟩
              · conv => whnf
                refine CallVC.obs hd1 rfl rfl ?_
                rintro _ _ F1 ⟨rfl, rfl⟩
                refine ⟨?_, trivial⟩
                · conv => whnf
                  refine CallVC.cov (args1 := [.loc 1 0, .agg (enD x.e), intD x.n]) [(2, 3), (3, 2)] [] ⟨[(82, boolD r), (12, .loc 2 0), (11, intD k), (10, .loc 1 0), (9, .loc 0 0), (3, rowsT l)], rcH (.obj (.sep F1 (trA lo hi N S1 now))) x N now S, 4, ([], 0)⟩ ?_ ?_ (rkeep_vc _ _ _ x N now S x.e x.n (by omega) ⟨hp0, by omega⟩ rfl rfl (fun _ _ _ => rfl) fun r' S' hr' => ?_)
                  · repeat' (first | exact trivial | exact .inl (DLe.refl _) | exact .inl (DLe.nil _ _) | (refine .inr ⟨rfl, _, ?_, rfl⟩; rfl) | exact rfl | exact Nat.zero_le _ | constructor)
                  · repeat' (first | exact trivial | exact .inl (DLe.refl _) | exact .inl (DLe.nil _ _) | (refine .inr ⟨rfl, _, ?_, rfl⟩; rfl) | exact rfl | exact Nat.zero_le _ | constructor)
                  obtain ⟨rfl, rfl⟩ : r = r' ∧ S1 = S' := by rw [hr] at hr'; exact ⟨congrArg Prod.fst hr', congrArg Prod.snd hr'⟩
                  conv => whnf
                  refine ⟨F1, [], [], ?_⟩
                  repeat' (first | exact trivial | exact .inl (DLe.refl _) | exact .inl (DLe.nil _ _) | (refine .inr ⟨rfl, _, ?_, rfl⟩; rfl) | exact rfl | exact Nat.zero_le _ | constructor)
        · conv => whnf
          refine ⟨?_, ?_, trivial⟩
          · conv => whnf
            refine ⟨?_, ?_, trivial⟩
            · conv => whnf
              refine CallVC.obs hd1 rfl rfl ?_
              rintro _ _ F1 ⟨rfl, rfl⟩
              refine ⟨?_, trivial⟩
              · conv => whnf
                refine ⟨?_, trivial⟩
                · conv => whnf
                  refine CallVC.cov (args1 := [.loc 1 0, .agg (enD x.e), intD x.n]) [(2, 3), (3, 2)] [] ⟨[(82, boolD r), (12, .loc 2 0), (11, intD k), (10, .loc 1 0), (9, .loc 0 0), (3, rowsT l)], rcH (.obj (.sep F1 (trA lo hi N S1 now))) x N now S, 4, ([], 0)⟩ ?_ ?_ (rkeep_vc _ _ _ x N now S x.e x.n (by omega) ⟨hp0, by omega⟩ rfl rfl (fun _ _ _ => rfl) fun r' S' hr' => ?_)
                  · repeat' (first | exact trivial | exact .inl (DLe.refl _) | exact .inl (DLe.nil _ _) | (refine .inr ⟨rfl, _, ?_, rfl⟩; rfl) | exact rfl | exact Nat.zero_le _ | constructor)
                  · repeat' (first | exact trivial | exact .inl (DLe.refl _) | exact .inl (DLe.nil _ _) | (refine .inr ⟨rfl, _, ?_, rfl⟩; rfl) | exact rfl | exact Nat.zero_le _ | constructor)
                  obtain ⟨rfl, rfl⟩ : r = r' ∧ S1 = S' := by rw [hr] at hr'; exact ⟨congrArg Prod.fst hr', congrArg Prod.snd hr'⟩
                  conv => whnf
                  refine ⟨F1, [], [], ?_⟩
                  repeat' (first | exact trivial | exact .inl (DLe.refl _) | exact .inl (DLe.nil _ _) | (refine .inr ⟨rfl, _, ?_, rfl⟩; rfl) | exact rfl | exact Nat.zero_le _ | constructor)
            · conv => whnf
              refine ⟨?_, trivial⟩
              · conv => whnf
                refine CallVC.obs hd1 rfl rfl ?_
                rintro _ _ F1 ⟨rfl, rfl⟩
                refine ⟨?_, trivial⟩
                · conv => whnf
                  refine CallVC.cov (args1 := [.loc 1 0, .agg (enD x.e), intD x.n]) [(2, 3), (3, 2)] [] ⟨[(82, boolD r), (12, .loc 2 0), (11, intD k), (10, .loc 1 0), (9, .loc 0 0), (3, rowsT l)], rcH (.obj (.sep F1 (trA lo hi N S1 now))) x N now S, 4, ([], 0)⟩ ?_ ?_ (rkeep_vc _ _ _ x N now S x.e x.n (by omega) ⟨hp0, by omega⟩ rfl rfl (fun _ _ _ => rfl) fun r' S' hr' => ?_)
                  · repeat' (first | exact trivial | exact .inl (DLe.refl _) | exact .inl (DLe.nil _ _) | (refine .inr ⟨rfl, _, ?_, rfl⟩; rfl) | exact rfl | exact Nat.zero_le _ | constructor)
                  · repeat' (first | exact trivial | exact .inl (DLe.refl _) | exact .inl (DLe.nil _ _) | (refine .inr ⟨rfl, _, ?_, rfl⟩; rfl) | exact rfl | exact Nat.zero_le _ | constructor)
                  obtain ⟨rfl, rfl⟩ : r = r' ∧ S1 = S' := by rw [hr] at hr'; exact ⟨congrArg Prod.fst hr', congrArg Prod.snd hr'⟩
                  conv => whnf
                  refine ⟨F1, [], [], ?_⟩
                  repeat' (first | exact trivial | exact .inl (DLe.refl _) | exact .inl (DLe.nil _ _) | (refine .inr ⟨rfl, _, ?_, rfl⟩; rfl) | exact rfl | exact Nat.zero_le _ | constructor)
          · conv => whnf
            refine ⟨?_, trivial⟩
            · conv => whnf
              refine ⟨?_, trivial⟩
              · conv => whnf
                refine CallVC.obs hd1 rfl rfl ?_
                rintro _ _ F1 ⟨rfl, rfl⟩
                refine ⟨?_, trivial⟩
                · conv => whnf
                  refine CallVC.cov (args1 := [.loc 1 0, .agg (enD x.e), intD x.n]) [(2, 3), (3, 2)] [] ⟨[(82, boolD r), (12, .loc 2 0), (11, intD k), (10, .loc 1 0), (9, .loc 0 0), (3, rowsT l)], rcH (.obj (.sep F1 (trA lo hi N S1 now))) x N now S, 4, ([], 0)⟩ ?_ ?_ (rkeep_vc _ _ _ x N now S x.e x.n (by omega) ⟨hp0, by omega⟩ rfl rfl (fun _ _ _ => rfl) fun r' S' hr' => ?_)
                  · repeat' (first | exact trivial | exact .inl (DLe.refl _) | exact .inl (DLe.nil _ _) | (refine .inr ⟨rfl, _, ?_, rfl⟩; rfl) | exact rfl | exact Nat.zero_le _ | constructor)
                  · repeat' (first | exact trivial | exact .inl (DLe.refl _) | exact .inl (DLe.nil _ _) | (refine .inr ⟨rfl, _, ?_, rfl⟩; rfl) | exact rfl | exact Nat.zero_le _ | constructor)
                  obtain ⟨rfl, rfl⟩ : r = r' ∧ S1 = S' := by rw [hr] at hr'; exact ⟨congrArg Prod.fst hr', congrArg Prod.snd hr'⟩
                  conv => whnf
                  refine ⟨F1, [], [], ?_⟩
                  repeat' (first | exact trivial | exact .inl (DLe.refl _) | exact .inl (DLe.nil _ _) | (refine .inr ⟨rfl, _, ?_, rfl⟩; rfl) | exact rfl | exact Nat.zero_le _ | constructor)
        · conv => whnf
          refine ⟨?_, ?_, trivial⟩
          · conv => whnf
            refine ⟨?_, trivial⟩
            · conv => whnf
              refine ⟨?_, trivial⟩
              · conv => whnf
                refine CallVC.obs hd1 rfl rfl ?_
                rintro _ _ F1 ⟨rfl, rfl⟩
                refine ⟨?_, trivial⟩
                · conv => whnf
                  refine CallVC.cov (args1 := [.loc 1 0, .agg (enD x.e), intD x.n]) [(2, 3), (3, 2)] [] ⟨[(82, boolD r), (12, .loc 2 0), (11, intD k), (10, .loc 1 0), (9, .loc 0 0), (3, rowsT l)], rcH (.obj (.sep F1 (trA lo hi N S1 now))) x N now S, 4, ([], 0)⟩ ?_ ?_ (rkeep_vc _ _ _ x N now S x.e x.n (by omega) ⟨hp0, by omega⟩ rfl rfl (fun _ _ _ => rfl) fun r' S' hr' => ?_)
                  · repeat' (first | exact trivial | exact .inl (DLe.refl _) | exact .inl (DLe.nil _ _) | (refine .inr ⟨rfl, _, ?_, rfl⟩; rfl) | exact rfl | exact Nat.zero_le _ | constructor)
                  · repeat' (first | exact trivial | exact .inl (DLe.refl _) | exact .inl (DLe.nil _ _) | (refine .inr ⟨rfl, _, ?_, rfl⟩; rfl) | exact rfl | exact Nat.zero_le _ | constructor)
                  obtain ⟨rfl, rfl⟩ : r = r' ∧ S1 = S' := by rw [hr] at hr'; exact ⟨congrArg Prod.fst hr', congrArg Prod.snd hr'⟩
                  conv => whnf
                  refine ⟨F1, [], [], ?_⟩
                  repeat' (first | exact trivial | exact .inl (DLe.refl _) | exact .inl (DLe.nil _ _) | (refine .inr ⟨rfl, _, ?_, rfl⟩; rfl) | exact rfl | exact Nat.zero_le _ | constructor)
          · conv => whnf
            refine ⟨?_, trivial⟩
            · conv => whnf
              refine ⟨?_, trivial⟩
              · conv => whnf
                refine CallVC.obs hd1 rfl rfl ?_
                rintro _ _ F1 ⟨rfl, rfl⟩
                refine ⟨?_, trivial⟩
                · conv => whnf
                  refine CallVC.cov (args1 := [.loc 1 0, .agg (enD x.e), intD x.n]) [(2, 3), (3, 2)] [] ⟨[(82, boolD r), (12, .loc 2 0), (11, intD k), (10, .loc 1 0), (9, .loc 0 0), (3, rowsT l)], rcH (.obj (.sep F1 (trA lo hi N S1 now))) x N now S, 4, ([], 0)⟩ ?_ ?_ (rkeep_vc _ _ _ x N now S x.e x.n (by omega) ⟨hp0, by omega⟩ rfl rfl (fun _ _ _ => rfl) fun r' S' hr' => ?_)
                  · repeat' (first | exact trivial | exact .inl (DLe.refl _) | exact .inl (DLe.nil _ _) | (refine .inr ⟨rfl, _, ?_, rfl⟩; rfl) | exact rfl | exact Nat.zero_le _ | constructor)
                  · repeat' (first | exact trivial | exact .inl (DLe.refl _) | exact .inl (DLe.nil _ _) | (refine .inr ⟨rfl, _, ?_, rfl⟩; rfl) | exact rfl | exact Nat.zero_le _ | constructor)
                  obtain ⟨rfl, rfl⟩ : r = r' ∧ S1 = S' := by rw [hr] at hr'; exact ⟨congrArg Prod.fst hr', congrArg Prod.snd hr'⟩
                  conv => whnf
                  refine ⟨F1, [], [], ?_⟩
                  repeat' (first | exact trivial | exact .inl (DLe.refl _) | exact .inl (DLe.nil _ _) | (refine .inr ⟨rfl, _, ?_, rfl⟩; rfl) | exact rfl | exact Nat.zero_le _ | constructor)
    have hl1 : S1.length ≤ k + 1 := by omega
    have hn1 : 0 ≤ now ∧ now ≤ 1073741824 + 4095 * ((k + 1 : Nat) : Int) := ⟨hp0, by omega⟩
    generalize now = now1 at *
    conv => whnf
    rw [show (!(r == r)) = false by simp]
    have hg := tget_sp lo hi N S1 now1 hxo
    have hrf := r23find_fn N now1 S1 (by omega) x.e.f
    have hro := r23of_fn N now1 S1 x.e.be (by omega)
    have hkl : (keptOf x.e.be S1).length ≤ S1.length := List.length_filter_le _ _
    have hsame := sameE_fn S1 S1 (by omega)
    have hsame2 := sameE_fn (keptOf x.e.be S1) (keptOf x.e.be S1) (by omega)
    rw [decide_eq_true (rfl : S1 = S1)] at hsame
    rw [decide_eq_true (rfl : keptOf x.e.be S1 = keptOf x.e.be S1)] at hsame2
    unfold getS at hg
    unfold findI at hrf
    cases hq : S1.findIdx? (isFl x.e.f) with
    | none =>
      rw [hq] at hg hrf
      dsimp only at hg hrf
      conv => whnf
      refine CallVC.look hg rfl ?_
      rintro _ rfl
      conv => whnf
      refine CallVC.look hrf rfl ?_
      rintro _ rfl
      conv => whnf
      refine ⟨eqEnOk, rfl, ?_⟩
      conv => whnf
      refine CallVC.look (tnow_sp lo hi N S1 now1) rfl ?_
      rintro _ rfl
      conv => whnf
      refine Fork.intro (fun h => ?_) (fun _ => ?_)
      · have h : (!decide (now1 = now1)) = true := h
        simp at h
      conv => whnf
      refine CallVC.look (tlen_sp lo hi N S1 now1) rfl ?_
      rintro _ rfl
      conv => whnf
      refine Fork.intro (fun h => ?_) (fun _ => ?_)
      · have h : (!decide ((S1.length : Int) = S1.length)) = true := h
        simp at h
      conv => whnf
      refine CallVC.look (tall_sp lo hi N S1 now1) rfl ?_
      rintro _ rfl
      conv => whnf
      refine CallVC.snap hsame ?_
      rintro _ rfl
      refine ⟨rfl, ?_⟩
      conv => whnf
      refine CallVC.look (tof_sp lo hi N S1 now1 x.e.be) rfl ?_
      rintro _ rfl
      conv => whnf
      refine CallVC.look hro rfl ?_
      rintro _ rfl
      conv => whnf
      refine CallVC.pure hsame2 rfl ?_
      rintro _ rfl
      conv => whnf
      rw [hwk]
      refine ⟨⟨k + 1, S1, now1, F1⟩, [(2, 3)], [], ?_, ⟨by show k + 1 ≤ _; omega, by show k + 1 ≤ 60; omega, hS1, hl1, hn1.1, hn1.2⟩, by show l.length - (k + 1) < l.length - k; omega⟩
      repeat' (first | exact trivial | exact .inl (DLe.refl _) | exact .inl (DLe.nil _ _) | (refine .inr ⟨rfl, _, ?_, rfl⟩; rfl) | exact rfl | exact Nat.zero_le _ | constructor)
    | some q =>
      rw [hq] at hg hrf
      obtain ⟨y, hy, hyf⟩ := find_at hq
      dsimp only at hg hrf
      rw [hy] at hg
      dsimp only [Option.getD_some] at hg
      have hql := (List.getElem?_eq_some_iff.1 hy).1
      conv => whnf
      refine CallVC.look hg rfl ?_
      rintro _ rfl
      conv => whnf
      refine CallVC.look hrf rfl ?_
      rintro _ rfl
      conv => whnf
      refine ⟨rfl, ⟨Int.natCast_nonneg _, Int.ofNat_lt.2 hql⟩, ?_⟩
      conv => whnf
      refine ⟨rfl, hql, fun z hz => ?_⟩
      obtain rfl : z = y := by rw [Int.toNat_natCast, hy] at hz; injection hz with hz; exact hz.symm
      conv => whnf
      refine ⟨eqEnOk, rfl, ?_⟩
      conv => whnf
      refine Fork.intro (fun h => ?_) (fun _ => ?_)
      · have h := (congrArg (!·) (eq_en z z)).symm.trans h
        simp at h
      conv => whnf
      refine CallVC.look (tnow_sp lo hi N S1 now1) rfl ?_
      rintro _ rfl
      conv => whnf
      refine Fork.intro (fun h => ?_) (fun _ => ?_)
      · have h : (!decide (now1 = now1)) = true := h
        simp at h
      conv => whnf
      refine CallVC.look (tlen_sp lo hi N S1 now1) rfl ?_
      rintro _ rfl
      conv => whnf
      refine Fork.intro (fun h => ?_) (fun _ => ?_)
      · have h : (!decide ((S1.length : Int) = S1.length)) = true := h
        simp at h
      conv => whnf
      refine CallVC.look (tall_sp lo hi N S1 now1) rfl ?_
      rintro _ rfl
      conv => whnf
      refine CallVC.snap hsame ?_
      rintro _ rfl
      refine ⟨rfl, ?_⟩
      conv => whnf
      refine CallVC.look (tof_sp lo hi N S1 now1 x.e.be) rfl ?_
      rintro _ rfl
      conv => whnf
      refine CallVC.look hro rfl ?_
      rintro _ rfl
      conv => whnf
      refine CallVC.pure hsame2 rfl ?_
      rintro _ rfl
      conv => whnf
      rw [hwk]
      refine ⟨⟨k + 1, S1, now1, F1⟩, [(2, 3)], [], ?_, ⟨by show k + 1 ≤ _; omega, by show k + 1 ≤ 60; omega, hS1, hl1, hn1.1, hn1.2⟩, by show l.length - (k + 1) < l.length - k; omega⟩
      repeat' (first | exact trivial | exact .inl (DLe.refl _) | exact .inl (DLe.nil _ _) | (refine .inr ⟨rfl, _, ?_, rfl⟩; rfl) | exact rfl | exact Nat.zero_le _ | constructor)
  | false =>
  conv => whnf
  cases c2 : decide (x.kind = 2) with
  | true =>
    conv => whnf
    have hd1 := tdrop_obs lo hi N S now hxo (by omega) (by omega)
    obtain ⟨hS1, a2, _⟩ := hS.drop x.e.f
    generalize hr : dropS S x.e.f = r at *
    obtain ⟨r, S1⟩ := r
    dsimp only at hS1 a2 hd1
    refine ⟨Nat → Prop, fun F1 => ⟨[(102, boolD (!(r == r))), (12, .loc 2 0), (11, intD k), (10, .loc 1 0), (9, .loc 0 0), (3, rowsT l)], rcH (.obj (.sep F1 (trA lo hi N S1 now))) x N now S1, 4, ([], 0)⟩, ?_, fun F1 => ?_⟩
    · conv => whnf
      refine ⟨?_, ?_, trivial⟩
      · conv => whnf
        refine ⟨?_, ?_, trivial⟩
        · conv => whnf
          refine CallVC.obs hd1 rfl rfl ?_
          rintro _ _ F1 ⟨rfl, rfl⟩
          refine ⟨?_, trivial⟩
          · conv => whnf
            refine ⟨?_, trivial⟩
            · conv => whnf
              refine CallVC.cov (args1 := [.loc 1 0, .agg (flD x.e.f)]) [(2, 3), (3, 2)] [] ⟨[(96, boolD r), (12, .loc 2 0), (11, intD k), (10, .loc 1 0), (9, .loc 0 0), (3, rowsT l)], rcH (.obj (.sep F1 (trA lo hi N S1 now))) x N now S, 4, ([], 0)⟩ ?_ ?_ (rdrop_vc _ _ _ x N now S x.e.f (by omega) rfl rfl (fun _ _ _ => rfl) fun r' S' hr' => ?_)
              · repeat' (first | exact trivial | exact .inl (DLe.refl _) | exact .inl (DLe.nil _ _) | (refine .inr ⟨rfl, _, ?_, rfl⟩; rfl) | exact rfl | exact Nat.zero_le _ | constructor)
              · repeat' (first | exact trivial | exact .inl (DLe.refl _) | exact .inl (DLe.nil _ _) | (refine .inr ⟨rfl, _, ?_, rfl⟩; rfl) | exact rfl | exact Nat.zero_le _ | constructor)
              obtain ⟨rfl, rfl⟩ : r = r' ∧ S1 = S' := by rw [hr] at hr'; exact ⟨congrArg Prod.fst hr', congrArg Prod.snd hr'⟩
              conv => whnf
              refine ⟨F1, [], [], ?_⟩
              repeat' (first | exact trivial | exact .inl (DLe.refl _) | exact .inl (DLe.nil _ _) | (refine .inr ⟨rfl, _, ?_, rfl⟩; rfl) | exact rfl | exact Nat.zero_le _ | constructor)
        · conv => whnf
          refine ⟨?_, trivial⟩
          · conv => whnf
            refine CallVC.obs hd1 rfl rfl ?_
            rintro _ _ F1 ⟨rfl, rfl⟩
            refine ⟨?_, trivial⟩
            · conv => whnf
              refine CallVC.cov (args1 := [.loc 1 0, .agg (flD x.e.f)]) [(2, 3), (3, 2)] [] ⟨[(96, boolD r), (12, .loc 2 0), (11, intD k), (10, .loc 1 0), (9, .loc 0 0), (3, rowsT l)], rcH (.obj (.sep F1 (trA lo hi N S1 now))) x N now S, 4, ([], 0)⟩ ?_ ?_ (rdrop_vc _ _ _ x N now S x.e.f (by omega) rfl rfl (fun _ _ _ => rfl) fun r' S' hr' => ?_)
              · repeat' (first | exact trivial | exact .inl (DLe.refl _) | exact .inl (DLe.nil _ _) | (refine .inr ⟨rfl, _, ?_, rfl⟩; rfl) | exact rfl | exact Nat.zero_le _ | constructor)
              · repeat' (first | exact trivial | exact .inl (DLe.refl _) | exact .inl (DLe.nil _ _) | (refine .inr ⟨rfl, _, ?_, rfl⟩; rfl) | exact rfl | exact Nat.zero_le _ | constructor)
              obtain ⟨rfl, rfl⟩ : r = r' ∧ S1 = S' := by rw [hr] at hr'; exact ⟨congrArg Prod.fst hr', congrArg Prod.snd hr'⟩
              conv => whnf
              refine ⟨F1, [], [], ?_⟩
              repeat' (first | exact trivial | exact .inl (DLe.refl _) | exact .inl (DLe.nil _ _) | (refine .inr ⟨rfl, _, ?_, rfl⟩; rfl) | exact rfl | exact Nat.zero_le _ | constructor)
      · conv => whnf
        refine ⟨?_, trivial⟩
        · conv => whnf
          refine ⟨?_, trivial⟩
          · conv => whnf
            refine CallVC.obs hd1 rfl rfl ?_
            rintro _ _ F1 ⟨rfl, rfl⟩
            refine ⟨?_, trivial⟩
            · conv => whnf
              refine CallVC.cov (args1 := [.loc 1 0, .agg (flD x.e.f)]) [(2, 3), (3, 2)] [] ⟨[(96, boolD r), (12, .loc 2 0), (11, intD k), (10, .loc 1 0), (9, .loc 0 0), (3, rowsT l)], rcH (.obj (.sep F1 (trA lo hi N S1 now))) x N now S, 4, ([], 0)⟩ ?_ ?_ (rdrop_vc _ _ _ x N now S x.e.f (by omega) rfl rfl (fun _ _ _ => rfl) fun r' S' hr' => ?_)
              · repeat' (first | exact trivial | exact .inl (DLe.refl _) | exact .inl (DLe.nil _ _) | (refine .inr ⟨rfl, _, ?_, rfl⟩; rfl) | exact rfl | exact Nat.zero_le _ | constructor)
              · repeat' (first | exact trivial | exact .inl (DLe.refl _) | exact .inl (DLe.nil _ _) | (refine .inr ⟨rfl, _, ?_, rfl⟩; rfl) | exact rfl | exact Nat.zero_le _ | constructor)
              obtain ⟨rfl, rfl⟩ : r = r' ∧ S1 = S' := by rw [hr] at hr'; exact ⟨congrArg Prod.fst hr', congrArg Prod.snd hr'⟩
              conv => whnf
              refine ⟨F1, [], [], ?_⟩
              repeat' (first | exact trivial | exact .inl (DLe.refl _) | exact .inl (DLe.nil _ _) | (refine .inr ⟨rfl, _, ?_, rfl⟩; rfl) | exact rfl | exact Nat.zero_le _ | constructor)
    have hl1 : S1.length ≤ k + 1 := by omega
    have hn1 : 0 ≤ now ∧ now ≤ 1073741824 + 4095 * ((k + 1 : Nat) : Int) := ⟨hp0, by omega⟩
    generalize now = now1 at *
    conv => whnf
    rw [show (!(r == r)) = false by simp]
    have hg := tget_sp lo hi N S1 now1 hxo
    have hrf := r23find_fn N now1 S1 (by omega) x.e.f
    have hro := r23of_fn N now1 S1 x.e.be (by omega)
    have hkl : (keptOf x.e.be S1).length ≤ S1.length := List.length_filter_le _ _
    have hsame := sameE_fn S1 S1 (by omega)
    have hsame2 := sameE_fn (keptOf x.e.be S1) (keptOf x.e.be S1) (by omega)
    rw [decide_eq_true (rfl : S1 = S1)] at hsame
    rw [decide_eq_true (rfl : keptOf x.e.be S1 = keptOf x.e.be S1)] at hsame2
    unfold getS at hg
    unfold findI at hrf
    cases hq : S1.findIdx? (isFl x.e.f) with
    | none =>
      rw [hq] at hg hrf
      dsimp only at hg hrf
      conv => whnf
      refine CallVC.look hg rfl ?_
      rintro _ rfl
      conv => whnf
      refine CallVC.look hrf rfl ?_
      rintro _ rfl
      conv => whnf
      refine ⟨eqEnOk, rfl, ?_⟩
      conv => whnf
      refine CallVC.look (tnow_sp lo hi N S1 now1) rfl ?_
      rintro _ rfl
      conv => whnf
      refine Fork.intro (fun h => ?_) (fun _ => ?_)
      · have h : (!decide (now1 = now1)) = true := h
        simp at h
      conv => whnf
      refine CallVC.look (tlen_sp lo hi N S1 now1) rfl ?_
      rintro _ rfl
      conv => whnf
      refine Fork.intro (fun h => ?_) (fun _ => ?_)
      · have h : (!decide ((S1.length : Int) = S1.length)) = true := h
        simp at h
      conv => whnf
      refine CallVC.look (tall_sp lo hi N S1 now1) rfl ?_
      rintro _ rfl
      conv => whnf
      refine CallVC.snap hsame ?_
      rintro _ rfl
      refine ⟨rfl, ?_⟩
      conv => whnf
      refine CallVC.look (tof_sp lo hi N S1 now1 x.e.be) rfl ?_
      rintro _ rfl
      conv => whnf
      refine CallVC.look hro rfl ?_
      rintro _ rfl
      conv => whnf
      refine CallVC.pure hsame2 rfl ?_
      rintro _ rfl
      conv => whnf
      rw [hwk]
      refine ⟨⟨k + 1, S1, now1, F1⟩, [(2, 3)], [], ?_, ⟨by show k + 1 ≤ _; omega, by show k + 1 ≤ 60; omega, hS1, hl1, hn1.1, hn1.2⟩, by show l.length - (k + 1) < l.length - k; omega⟩
      repeat' (first | exact trivial | exact .inl (DLe.refl _) | exact .inl (DLe.nil _ _) | (refine .inr ⟨rfl, _, ?_, rfl⟩; rfl) | exact rfl | exact Nat.zero_le _ | constructor)
    | some q =>
      rw [hq] at hg hrf
      obtain ⟨y, hy, hyf⟩ := find_at hq
      dsimp only at hg hrf
      rw [hy] at hg
      dsimp only [Option.getD_some] at hg
      have hql := (List.getElem?_eq_some_iff.1 hy).1
      conv => whnf
      refine CallVC.look hg rfl ?_
      rintro _ rfl
      conv => whnf
      refine CallVC.look hrf rfl ?_
      rintro _ rfl
      conv => whnf
      refine ⟨rfl, ⟨Int.natCast_nonneg _, Int.ofNat_lt.2 hql⟩, ?_⟩
      conv => whnf
      refine ⟨rfl, hql, fun z hz => ?_⟩
      obtain rfl : z = y := by rw [Int.toNat_natCast, hy] at hz; injection hz with hz; exact hz.symm
      conv => whnf
      refine ⟨eqEnOk, rfl, ?_⟩
      conv => whnf
      refine Fork.intro (fun h => ?_) (fun _ => ?_)
      · have h := (congrArg (!·) (eq_en z z)).symm.trans h
        simp at h
      conv => whnf
      refine CallVC.look (tnow_sp lo hi N S1 now1) rfl ?_
      rintro _ rfl
      conv => whnf
      refine Fork.intro (fun h => ?_) (fun _ => ?_)
      · have h : (!decide (now1 = now1)) = true := h
        simp at h
      conv => whnf
      refine CallVC.look (tlen_sp lo hi N S1 now1) rfl ?_
      rintro _ rfl
      conv => whnf
      refine Fork.intro (fun h => ?_) (fun _ => ?_)
      · have h : (!decide ((S1.length : Int) = S1.length)) = true := h
        simp at h
      conv => whnf
      refine CallVC.look (tall_sp lo hi N S1 now1) rfl ?_
      rintro _ rfl
      conv => whnf
      refine CallVC.snap hsame ?_
      rintro _ rfl
      refine ⟨rfl, ?_⟩
      conv => whnf
      refine CallVC.look (tof_sp lo hi N S1 now1 x.e.be) rfl ?_
      rintro _ rfl
      conv => whnf
      refine CallVC.look hro rfl ?_
      rintro _ rfl
      conv => whnf
      refine CallVC.pure hsame2 rfl ?_
      rintro _ rfl
      conv => whnf
      rw [hwk]
      refine ⟨⟨k + 1, S1, now1, F1⟩, [(2, 3)], [], ?_, ⟨by show k + 1 ≤ _; omega, by show k + 1 ≤ 60; omega, hS1, hl1, hn1.1, hn1.2⟩, by show l.length - (k + 1) < l.length - k; omega⟩
      repeat' (first | exact trivial | exact .inl (DLe.refl _) | exact .inl (DLe.nil _ _) | (refine .inr ⟨rfl, _, ?_, rfl⟩; rfl) | exact rfl | exact Nat.zero_le _ | constructor)
  | false =>
    conv => whnf
    have hd1 := tturn_obs lo hi N S now x.n (by omega) (by omega)
    obtain ⟨hS1, a2⟩ := hS.turn (turnN x.n)
    have htn := turnN_in x.n
    have hol := a2.length_eq
    rw [List.length_append] at hol
    have hsm := sameE_fn (dueS S now (turnN x.n)) (dueS S now (turnN x.n)) (by omega)
    rw [decide_eq_true (rfl : dueS S now (turnN x.n) = dueS S now (turnN x.n))] at hsm
    generalize hD0 : dueS S now (turnN x.n) = D0 at *
    generalize hS1e : (S.filter fun y => decide (now + (turnN x.n : Int) < y.at_)) = S1 at *
    have hn1 : 0 ≤ now + (turnN x.n : Int) ∧ now + (turnN x.n : Int) ≤ 1073741824 + 4095 * ((k + 1 : Nat) : Int) := by omega
    generalize hnn : now + (turnN x.n : Int) = now1 at *
    have hl1 : S1.length ≤ k + 1 := by omega
    refine ⟨Nat → Prop, fun F1 => ⟨[(59, boolD (!true)), (12, .loc 2 0), (11, intD k), (10, .loc 1 0), (9, .loc 0 0), (3, rowsT l)], rcH (.obj (.sep F1 (trA lo hi N S1 now1))) x N now1 S1, 4, ([], 0)⟩, ?_, fun F1 => ?_⟩
    · conv => whnf
      refine ⟨?_, ?_, trivial⟩
      · conv => whnf
        refine ⟨?_, ?_, trivial⟩
        · conv => whnf
          refine CallVC.obs hd1 rfl rfl ?_
          rintro _ _ F1 ⟨rfl, rfl⟩
          refine ⟨?_, trivial⟩
          · conv => whnf
            refine ⟨?_, trivial⟩
            · conv => whnf
              refine CallVC.cov (args1 := [.loc 1 0, intD x.n]) [(2, 3), (3, 2)] [] ⟨[(53, rowsN D0), (12, .loc 2 0), (11, intD k), (10, .loc 1 0), (9, .loc 0 0), (3, rowsT l)], rcH (.obj (.sep F1 (trA lo hi N S1 now1))) x N now S, 4, ([], 0)⟩ ?_ ?_ (rturn_vc _ _ _ x N now S x.n (by omega) ⟨hp0, by omega⟩ (fun y hy => (hS.lim y hy).1) rfl rfl (fun _ _ _ => rfl) ?_)
              · repeat' (first | exact trivial | exact .inl (DLe.refl _) | exact .inl (DLe.nil _ _) | (refine .inr ⟨rfl, _, ?_, rfl⟩; rfl) | exact rfl | exact Nat.zero_le _ | constructor)
              · repeat' (first | exact trivial | exact .inl (DLe.refl _) | exact .inl (DLe.nil _ _) | (refine .inr ⟨rfl, _, ?_, rfl⟩; rfl) | exact rfl | exact Nat.zero_le _ | constructor)
              rw [hD0, hnn, hS1e]
              refine ⟨?_, trivial⟩
              · conv => whnf
                refine CallVC.snap hsm ?_
                rintro _ rfl
                refine ⟨rfl, ?_⟩
                conv => whnf
                refine ⟨F1, [], [], ?_⟩
                repeat' (first | exact trivial | exact .inl (DLe.refl _) | exact .inl (DLe.nil _ _) | (refine .inr ⟨rfl, _, ?_, rfl⟩; rfl) | exact rfl | exact Nat.zero_le _ | constructor)
        · conv => whnf
          refine ⟨?_, trivial⟩
          · conv => whnf
            refine CallVC.obs hd1 rfl rfl ?_
            rintro _ _ F1 ⟨rfl, rfl⟩
            refine ⟨?_, trivial⟩
            · conv => whnf
              refine CallVC.cov (args1 := [.loc 1 0, intD x.n]) [(2, 3), (3, 2)] [] ⟨[(53, rowsN D0), (12, .loc 2 0), (11, intD k), (10, .loc 1 0), (9, .loc 0 0), (3, rowsT l)], rcH (.obj (.sep F1 (trA lo hi N S1 now1))) x N now S, 4, ([], 0)⟩ ?_ ?_ (rturn_vc _ _ _ x N now S x.n (by omega) ⟨hp0, by omega⟩ (fun y hy => (hS.lim y hy).1) rfl rfl (fun _ _ _ => rfl) ?_)
              · repeat' (first | exact trivial | exact .inl (DLe.refl _) | exact .inl (DLe.nil _ _) | (refine .inr ⟨rfl, _, ?_, rfl⟩; rfl) | exact rfl | exact Nat.zero_le _ | constructor)
              · repeat' (first | exact trivial | exact .inl (DLe.refl _) | exact .inl (DLe.nil _ _) | (refine .inr ⟨rfl, _, ?_, rfl⟩; rfl) | exact rfl | exact Nat.zero_le _ | constructor)
              rw [hD0, hnn, hS1e]
              refine ⟨?_, trivial⟩
              · conv => whnf
                refine CallVC.snap hsm ?_
                rintro _ rfl
                refine ⟨rfl, ?_⟩
                conv => whnf
                refine ⟨F1, [], [], ?_⟩
                repeat' (first | exact trivial | exact .inl (DLe.refl _) | exact .inl (DLe.nil _ _) | (refine .inr ⟨rfl, _, ?_, rfl⟩; rfl) | exact rfl | exact Nat.zero_le _ | constructor)
      · conv => whnf
        refine ⟨?_, trivial⟩
        · conv => whnf
          refine ⟨?_, trivial⟩
          · conv => whnf
            refine CallVC.obs hd1 rfl rfl ?_
            rintro _ _ F1 ⟨rfl, rfl⟩
            refine ⟨?_, trivial⟩
            · conv => whnf
              refine CallVC.cov (args1 := [.loc 1 0, intD x.n]) [(2, 3), (3, 2)] [] ⟨[(53, rowsN D0), (12, .loc 2 0), (11, intD k), (10, .loc 1 0), (9, .loc 0 0), (3, rowsT l)], rcH (.obj (.sep F1 (trA lo hi N S1 now1))) x N now S, 4, ([], 0)⟩ ?_ ?_ (rturn_vc _ _ _ x N now S x.n (by omega) ⟨hp0, by omega⟩ (fun y hy => (hS.lim y hy).1) rfl rfl (fun _ _ _ => rfl) ?_)
              · repeat' (first | exact trivial | exact .inl (DLe.refl _) | exact .inl (DLe.nil _ _) | (refine .inr ⟨rfl, _, ?_, rfl⟩; rfl) | exact rfl | exact Nat.zero_le _ | constructor)
              · repeat' (first | exact trivial | exact .inl (DLe.refl _) | exact .inl (DLe.nil _ _) | (refine .inr ⟨rfl, _, ?_, rfl⟩; rfl) | exact rfl | exact Nat.zero_le _ | constructor)
              rw [hD0, hnn, hS1e]
              refine ⟨?_, trivial⟩
              · conv => whnf
                refine CallVC.snap hsm ?_
                rintro _ rfl
                refine ⟨rfl, ?_⟩
                conv => whnf
                refine ⟨F1, [], [], ?_⟩
                repeat' (first | exact trivial | exact .inl (DLe.refl _) | exact .inl (DLe.nil _ _) | (refine .inr ⟨rfl, _, ?_, rfl⟩; rfl) | exact rfl | exact Nat.zero_le _ | constructor)
    conv => whnf
    have hg := tget_sp lo hi N S1 now1 hxo
    have hrf := r23find_fn N now1 S1 (by omega) x.e.f
    have hro := r23of_fn N now1 S1 x.e.be (by omega)
    have hkl : (keptOf x.e.be S1).length ≤ S1.length := List.length_filter_le _ _
    have hsame := sameE_fn S1 S1 (by omega)
    have hsame2 := sameE_fn (keptOf x.e.be S1) (keptOf x.e.be S1) (by omega)
    rw [decide_eq_true (rfl : S1 = S1)] at hsame
    rw [decide_eq_true (rfl : keptOf x.e.be S1 = keptOf x.e.be S1)] at hsame2
    unfold getS at hg
    unfold findI at hrf
    cases hq : S1.findIdx? (isFl x.e.f) with
    | none =>
      rw [hq] at hg hrf
      dsimp only at hg hrf
      conv => whnf
      refine CallVC.look hg rfl ?_
      rintro _ rfl
      conv => whnf
      refine CallVC.look hrf rfl ?_
      rintro _ rfl
      conv => whnf
      refine ⟨eqEnOk, rfl, ?_⟩
      conv => whnf
      refine CallVC.look (tnow_sp lo hi N S1 now1) rfl ?_
      rintro _ rfl
      conv => whnf
      refine Fork.intro (fun h => ?_) (fun _ => ?_)
      · have h : (!decide (now1 = now1)) = true := h
        simp at h
      conv => whnf
      refine CallVC.look (tlen_sp lo hi N S1 now1) rfl ?_
      rintro _ rfl
      conv => whnf
      refine Fork.intro (fun h => ?_) (fun _ => ?_)
      · have h : (!decide ((S1.length : Int) = S1.length)) = true := h
        simp at h
      conv => whnf
      refine CallVC.look (tall_sp lo hi N S1 now1) rfl ?_
      rintro _ rfl
      conv => whnf
      refine CallVC.snap hsame ?_
      rintro _ rfl
      refine ⟨rfl, ?_⟩
      conv => whnf
      refine CallVC.look (tof_sp lo hi N S1 now1 x.e.be) rfl ?_
      rintro _ rfl
      conv => whnf
      refine CallVC.look hro rfl ?_
      rintro _ rfl
      conv => whnf
      refine CallVC.pure hsame2 rfl ?_
      rintro _ rfl
      conv => whnf
      rw [hwk]
      refine ⟨⟨k + 1, S1, now1, F1⟩, [(2, 3)], [], ?_, ⟨by show k + 1 ≤ _; omega, by show k + 1 ≤ 60; omega, hS1, hl1, hn1.1, hn1.2⟩, by show l.length - (k + 1) < l.length - k; omega⟩
      repeat' (first | exact trivial | exact .inl (DLe.refl _) | exact .inl (DLe.nil _ _) | (refine .inr ⟨rfl, _, ?_, rfl⟩; rfl) | exact rfl | exact Nat.zero_le _ | constructor)
    | some q =>
      rw [hq] at hg hrf
      obtain ⟨y, hy, hyf⟩ := find_at hq
      dsimp only at hg hrf
      rw [hy] at hg
      dsimp only [Option.getD_some] at hg
      have hql := (List.getElem?_eq_some_iff.1 hy).1
      conv => whnf
      refine CallVC.look hg rfl ?_
      rintro _ rfl
      conv => whnf
      refine CallVC.look hrf rfl ?_
      rintro _ rfl
      conv => whnf
      refine ⟨rfl, ⟨Int.natCast_nonneg _, Int.ofNat_lt.2 hql⟩, ?_⟩
      conv => whnf
      refine ⟨rfl, hql, fun z hz => ?_⟩
      obtain rfl : z = y := by rw [Int.toNat_natCast, hy] at hz; injection hz with hz; exact hz.symm
      conv => whnf
      refine ⟨eqEnOk, rfl, ?_⟩
      conv => whnf
      refine Fork.intro (fun h => ?_) (fun _ => ?_)
      · have h := (congrArg (!·) (eq_en z z)).symm.trans h
        simp at h
      conv => whnf
      refine CallVC.look (tnow_sp lo hi N S1 now1) rfl ?_
      rintro _ rfl
      conv => whnf
      refine Fork.intro (fun h => ?_) (fun _ => ?_)
      · have h : (!decide (now1 = now1)) = true := h
        simp at h
      conv => whnf
      refine CallVC.look (tlen_sp lo hi N S1 now1) rfl ?_
      rintro _ rfl
      conv => whnf
      refine Fork.intro (fun h => ?_) (fun _ => ?_)
      · have h : (!decide ((S1.length : Int) = S1.length)) = true := h
        simp at h
      conv => whnf
      refine CallVC.look (tall_sp lo hi N S1 now1) rfl ?_
      rintro _ rfl
      conv => whnf
      refine CallVC.snap hsame ?_
      rintro _ rfl
      refine ⟨rfl, ?_⟩
      conv => whnf
      refine CallVC.look (tof_sp lo hi N S1 now1 x.e.be) rfl ?_
      rintro _ rfl
      conv => whnf
      refine CallVC.look hro rfl ?_
      rintro _ rfl
      conv => whnf
      refine CallVC.pure hsame2 rfl ?_
      rintro _ rfl
      conv => whnf
      rw [hwk]
      refine ⟨⟨k + 1, S1, now1, F1⟩, [(2, 3)], [], ?_, ⟨by show k + 1 ≤ _; omega, by show k + 1 ≤ 60; omega, hS1, hl1, hn1.1, hn1.2⟩, by show l.length - (k + 1) < l.length - k; omega⟩
      repeat' (first | exact trivial | exact .inl (DLe.refl _) | exact .inl (DLe.nil _ _) | (refine .inr ⟨rfl, _, ?_, rfl⟩; rfl) | exact rfl | exact Nat.zero_le _ | constructor)
end Go.Proofs.YtcbpdjikdohegaaGreat.V
