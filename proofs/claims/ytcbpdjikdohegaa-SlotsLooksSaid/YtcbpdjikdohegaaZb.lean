/-
  The document's sum of thirteen bytes by a key. Conditions: bytes are ones.
-/
import Derived.Test.YtcbpdjikdohegaaZa
import Derived.Test.YtcbpdjikdohegaaYf
namespace Go.Proofs.Ytcbpdjikdohegaa.V
open Go.RowKit
attribute [local irreducible] Fn FnN OpVC Ob

def D1 (L : List Int) : List Int := L.drop 8 ++ [0, 0, 13]
theorem leI_pad (l : List Int) (h : l.length = 5) : leI (l ++ [0, 0, 13]) = leI l + 13 * 2 ^ 56 := by
  rw [show l ++ [0, 0, 13] = ((l ++ [0]) ++ [0]) ++ [13] by simp, leI_snoc, leI_snoc, leI_snoc]
  simp only [List.length_append, List.length_cons, List.length_nil, h, Int.zero_mul, Int.add_zero]
  rfl
theorem dig_step {D : List Int} (hb : Bytes D) (hl : D.length = 8) {m : Nat} (hm1 : m < 8) {z : Int} (hz : D[7 - m]? = some z) :
    (0 ≤ z ∧ z < 256) ∧ IntKind.u64.wrap z = z ∧ IntKind.u64.wrap (IntKind.u64.wrap (leI (D.drop (8 - m)) * 256) + z) = leI (D.drop (8 - (m + 1))) := by
  have hz1 := hb z (List.mem_of_getElem? hz)
  have ez : IntKind.u64.wrap z = z := w64_id ⟨by omega, by omega⟩
  have hdr : D.drop (8 - (m + 1)) = z :: D.drop (8 - m) := by
    rw [show 8 - (m + 1) = 7 - m by omega, show 8 - m = 7 - m + 1 by omega]
    exact List.drop_eq_getElem?_toList_append.trans (by rw [hz]; rfl)
  have hin := leI_in (l := D.drop (8 - m)) fun x hx => hb x (List.mem_of_mem_drop hx)
  rw [List.length_drop, hl] at hin
  have h56 : leI (D.drop (8 - m)) < 72057594037927936 := by
    have h1 := hin.2
    rcases (by omega : m = 0 ∨ m = 1 ∨ m = 2 ∨ m = 3 ∨ m = 4 ∨ m = 5 ∨ m = 6 ∨ m = 7) with rfl | rfl | rfl | rfl | rfl | rfl | rfl | rfl <;> (simp only [Nat.reduceSub, Int.reducePow] at h1; omega)
  refine ⟨hz1, ez, ?_⟩
  rw [hdr]
  show w64 (w64 _ + z) = z + 256 * leI _
  have h0 := hin.1
  rw [w64_id (n := leI (D.drop (8 - m)) * 256) ⟨by omega, by omega⟩, w64_id ⟨by omega, by omega⟩]
  omega
set_option maxHeartbeats 40000000 in
theorem rsum_fn (lo hi : Int) (L : List Int) (hL : Bytes L) (hl : L.length = 13) : Fn Try.prog 78 [.agg [u64D lo, u64D hi], rowsB L] fun d => d = u64D (sumS lo hi (leI (L.take 8)) (leI (L.drop 8) + 13 * 2 ^ 56)) := by
  refine fnOf [] Try.func78 rfl (by kernel_rfl) (Nat.le_of_ble_eq_true rfl) ?_
  have hs0 : S4.ok ⟨xorI lo 8317987319222330741, xorI hi 7237128888997146477, xorI lo 7816392313619706465, xorI hi 8387220255154660723⟩ := ⟨xorI_in _ _, xorI_in _ _, xorI_in _ _, xorI_in _ _⟩
  generalize hsd : (⟨xorI lo 8317987319222330741, xorI hi 7237128888997146477, xorI lo 7816392313619706465, xorI hi 8387220255154660723⟩ : S4) = s0 at hs0
  have e13 : IntKind.u64.wrap (((13 : Nat) : Int).tmod 256) = 13 := by kernel_rfl
  obtain ⟨D0, hD0⟩ : ∃ D0, D0 = L.take 8 := ⟨_, rfl⟩
  obtain ⟨D1, hD1⟩ : ∃ D1, D1 = L.drop 8 ++ [0, 0, 13] := ⟨_, rfl⟩
  have D0l : D0.length = 8 := by rw [hD0, List.length_take]; omega
  have D1l : D1.length = 8 := by rw [hD1, List.length_append, List.length_drop, hl]; rfl
  have D0b : Bytes D0 := by rw [hD0]; exact fun x hx => hL x (List.mem_of_mem_take hx)
  have D1b : Bytes D1 := by
    rw [hD1]
    intro x hx
    rcases List.mem_append.1 hx with h | h
    · exact hL x (List.mem_of_mem_drop h)
    · simp only [List.mem_cons, List.not_mem_nil, or_false] at h
      omega
  have hw1 : leI (L.drop 8) + 13 * 2 ^ 56 = leI D1 := by rw [hD1, leI_pad _ (by rw [List.length_drop, hl])]
  have D0g : ∀ j, j < 8 → L[j]? = D0[j]? := fun j hj => by rw [hD0, List.getElem?_take_of_lt hj]
  have D1g : ∀ j, j < 5 → L[8 + j]? = D1[j]? := fun j hj => by rw [hD1, List.getElem?_append_left (by rw [List.length_drop, hl]; omega), List.getElem?_drop]
  have D1z : ∀ j z, 5 ≤ j → j ≠ 7 → D1[j]? = some z → z = 0 := fun j z h5 h7 hz => by
    rw [hD1, List.getElem?_append_right (by rw [List.length_drop, hl]; omega), List.length_drop, hl] at hz
    rcases (by omega : j = 5 ∨ j = 6 ∨ 8 ≤ j) with rfl | rfl | h8
    · simpa using hz.symm
    · simpa using hz.symm
    · rw [List.getElem?_eq_none (by simp; omega)] at hz; cases hz
  have D17 : D1[7]? = some 13 := by
    rw [hD1, List.getElem?_append_right (by rw [List.length_drop, hl]; omega), List.length_drop, hl]; rfl
  rw [hw1, ← hD0]
  obtain ⟨s1, es1⟩ : ∃ s1, s1 = s0.take (leI D0) := ⟨_, rfl⟩
  obtain ⟨s2, es2⟩ : ∃ s2, s2 = s1.take (leI D1) := ⟨_, rfl⟩
  have hs0k : s0.ok := hs0
  have hs1k : s1.ok := by rw [es1]; exact take_ok _ _
  have hs2k : s2.ok := by rw [es2]; exact take_ok _ _
  have hsum : sumS lo hi (leI D0) (leI D1) = xorI (xorI (xorI (rnds 4 ⟨s2.a, s2.b, xorI s2.c 255, s2.d⟩).a (rnds 4 ⟨s2.a, s2.b, xorI s2.c 255, s2.d⟩).b) (rnds 4 ⟨s2.a, s2.b, xorI s2.c 255, s2.d⟩).c) (rnds 4 ⟨s2.a, s2.b, xorI s2.c 255, s2.d⟩).d := by
    subst es2 es1 hsd
    rfl
  conv => whnf
  rw [hl]
  refine ⟨by decide, ?_⟩
  conv => whnf
  refine ⟨Nat, fun k => ⟨[(7, intD k), (6, intD 2), (5, .loc 1 0), (1, rowsB L)], [(1, .cells 139 (s4D (match k with | 0 => s0 | 1 => s1 | _ => s2))), (0, .cells 24 [u64D lo, u64D hi])], 2, ([], 0)⟩, fun k => k ≤ 2, fun k => 2 - k, ⟨0, [], [], ?_, Nat.zero_le _⟩, ?_⟩
  · rw [← hsd]
    repeat' (first | exact trivial | exact .inl (DLe.refl _) | exact .inl (DLe.nil _ _) | (refine .inr ⟨rfl, _, ?_, rfl⟩; rfl) | exact rfl | exact Nat.zero_le _ | constructor)
  intro k hk
  replace hk : k ≤ 2 := hk
  rcases (by omega : k = 0 ∨ k = 1 ∨ k = 2) with rfl | rfl | rfl
  · conv => whnf
    rw [show decide (((0 : Nat) : Int) < 2) = true from rfl]
    conv => whnf
    refine ⟨Nat, fun m => ⟨[(9, intD (7 - m : Int)), (8, u64D (leI (D0.drop (8 - m)))), (7, intD (0 : Nat)), (6, intD 2), (5, .loc 1 0), (1, rowsB L)], [(1, .cells 139 (s4D s0)), (0, .cells 24 [u64D lo, u64D hi])], 2, ([], 0)⟩, fun m => m ≤ 8, fun m => 8 - m, ⟨0, [], [], ?_, Nat.zero_le _⟩, ?_⟩
    · have e0 : D0.drop 8 = [] := List.drop_of_length_le (by rw [D0l]; exact Nat.le_refl _)
      have e1 : leI (D0.drop (8 - 0)) = 0 := by rw [show 8 - 0 = 8 from rfl, e0]; rfl
      repeat' (first | exact trivial | exact .inl (DLe.refl _) | exact .inl (DLe.nil _ _) | (refine .inr ⟨rfl, _, ?_, rfl⟩; rfl) | exact rfl | exact Nat.zero_le _ | constructor)
      exact DLe.of_eq (congrArg u64D e1.symm)
    · intro m hm
      replace hm : m ≤ 8 := hm
      conv => whnf
      cases g1 : decide ((0 : Int) ≤ 7 - m) with
      | true =>
        have hm1 : m < 8 := by have := of_decide_eq_true g1; omega
        obtain ⟨z, hz⟩ : ∃ z, D0[7 - m]? = some z := ⟨_, List.getElem?_eq_getElem (by rw [D0l]; omega)⟩
        obtain ⟨hz1, ez, hstep⟩ := dig_step D0b D0l hm1 hz
        have ej : IntKind.i64.wrap ((7 : Int) - m - 1) = 7 - ((m + 1 : Nat) : Int) := by rw [IntWalk.i64_in _ (by omega)]; omega
        have e7 : (7 : Int) - m = ((7 - m : Nat) : Int) := by omega
        rw [e7] at g1 ej
        have e8 : IntKind.i64.wrap (IntKind.i64.wrap (8 * ((0 : Nat) : Int)) + ((7 - m : Nat) : Int)) = ((7 - m : Nat) : Int) := by rw [IntWalk.i64_in (8 * ((0 : Nat) : Int)) (by omega), IntWalk.i64_in _ (by omega)]; omega
        rw [e7]
        conv => whnf
        refine Fork.intro (fun _ => ?_) (fun g2 => absurd (of_decide_eq_false g2) (by simp only [e8, hl]; omega))
        conv => whnf
        refine ⟨rfl, ⟨by simp only [e8]; omega, by simp only [e8, hl]; omega⟩, fun y hy => ?_⟩
        obtain rfl : y = z := by replace hy : L[7 - m]? = some y := (congrArg (fun i : Int => L[i.toNat]?) e8).symm.trans hy; have h1 : L[7 - m]? = some z := (D0g (7 - m) (by omega)).trans hz; rw [h1] at hy; injection hy with hy; exact hy.symm
        conv => whnf
        simp only [ez]
        conv => whnf
        simp only [hstep, ej]
        refine ⟨m + 1, [], [], ?_, hm1, by show 8 - (m + 1) < 8 - m; omega⟩
        repeat' (first | exact trivial | exact .inl (DLe.refl _) | exact .inl (DLe.nil _ _) | (refine .inr ⟨rfl, _, ?_, rfl⟩; rfl) | exact rfl | exact Nat.zero_le _ | constructor)
      | false =>
        have hm8 : m = 8 := by have := of_decide_eq_false g1; omega
        subst hm8
        rw [show D0.drop (8 - 8) = D0 from rfl]
        conv => whnf
        refine ⟨by decide, ?_⟩
        conv => whnf
        refine ⟨by decide, ?_⟩
        conv => whnf
        refine CallVC.pure (rround_fn ⟨s0.a, s0.b, s0.c, xorI s0.d (leI D0)⟩ ⟨hs0k.1, hs0k.2.1, hs0k.2.2.1, xorI_in _ _⟩) rfl ?_
        rintro _ rfl
        generalize hr1 : rnd ⟨s0.a, s0.b, s0.c, xorI s0.d (leI D0)⟩ = r1
        have hk1 : r1.ok := by rw [← hr1]; exact rnd_ok _
        conv => whnf
        refine CallVC.pure (rround_fn r1 hk1) rfl ?_
        rintro _ rfl
        generalize hr2 : rnd r1 = r2
        conv => whnf
        refine ⟨by decide, ?_⟩
        conv => whnf
        refine ⟨by decide, ?_⟩
        conv => whnf
        obtain rfl : s1 = ⟨xorI r2.a (leI D0), r2.b, r2.c, r2.d⟩ := by rw [es1, ← hr2, ← hr1]; rfl
        rw [show IntKind.i64.wrap (((0 : Nat) : Int) + 1) = ((1 : Nat) : Int) from rfl]
        refine ⟨1, [], [], ?_, by decide, by decide⟩
        repeat' (first | exact trivial | exact .inl (DLe.refl _) | exact .inl (DLe.nil _ _) | (refine .inr ⟨rfl, _, ?_, rfl⟩; rfl) | exact rfl | exact Nat.zero_le _ | constructor)
  · conv => whnf
    rw [show decide (((1 : Nat) : Int) < 2) = true from rfl]
    conv => whnf
    refine ⟨Nat, fun m => ⟨[(9, intD (7 - m : Int)), (8, u64D (leI (D1.drop (8 - m)))), (7, intD (1 : Nat)), (6, intD 2), (5, .loc 1 0), (1, rowsB L)], [(1, .cells 139 (s4D s1)), (0, .cells 24 [u64D lo, u64D hi])], 2, ([], 0)⟩, fun m => m ≤ 8, fun m => 8 - m, ⟨0, [], [], ?_, Nat.zero_le _⟩, ?_⟩
    · have e0 : D1.drop 8 = [] := List.drop_of_length_le (by rw [D1l]; exact Nat.le_refl _)
      have e1 : leI (D1.drop (8 - 0)) = 0 := by rw [show 8 - 0 = 8 from rfl, e0]; rfl
      repeat' (first | exact trivial | exact .inl (DLe.refl _) | exact .inl (DLe.nil _ _) | (refine .inr ⟨rfl, _, ?_, rfl⟩; rfl) | exact rfl | exact Nat.zero_le _ | constructor)
      exact DLe.of_eq (congrArg u64D e1.symm)
    · intro m hm
      replace hm : m ≤ 8 := hm
      conv => whnf
      cases g1 : decide ((0 : Int) ≤ 7 - m) with
      | true =>
        have hm1 : m < 8 := by have := of_decide_eq_true g1; omega
        obtain ⟨z, hz⟩ : ∃ z, D1[7 - m]? = some z := ⟨_, List.getElem?_eq_getElem (by rw [D1l]; omega)⟩
        obtain ⟨hz1, ez, hstep⟩ := dig_step D1b D1l hm1 hz
        have ej : IntKind.i64.wrap ((7 : Int) - m - 1) = 7 - ((m + 1 : Nat) : Int) := by rw [IntWalk.i64_in _ (by omega)]; omega
        have e7 : (7 : Int) - m = ((7 - m : Nat) : Int) := by omega
        rw [e7] at g1 ej
        have e8 : IntKind.i64.wrap (IntKind.i64.wrap (8 * ((1 : Nat) : Int)) + ((7 - m : Nat) : Int)) = ((8 + (7 - m) : Nat) : Int) := by rw [IntWalk.i64_in (8 * ((1 : Nat) : Int)) (by omega), IntWalk.i64_in _ (by omega)]; omega
        rw [e7]
        conv => whnf
        by_cases hj : 7 - m < 5
        · refine Fork.intro (fun _ => ?_) (fun g2 => absurd (of_decide_eq_false g2) (by simp only [e8, hl]; omega))
          conv => whnf
          refine ⟨rfl, ⟨by simp only [e8]; omega, by simp only [e8, hl]; omega⟩, fun y hy => ?_⟩
          obtain rfl : y = z := by replace hy : L[8 + (7 - m)]? = some y := (congrArg (fun i : Int => L[i.toNat]?) e8).symm.trans hy; have h1 : L[8 + (7 - m)]? = some z := (D1g (7 - m) hj).trans hz; rw [h1] at hy; injection hy with hy; exact hy.symm
          conv => whnf
          simp only [ez]
          refine Fork.intro (fun g3 => absurd (of_decide_eq_true g3) (by omega)) (fun _ => ?_)
          conv => whnf
          simp only [hstep, ej]
          refine ⟨m + 1, [], [], ?_, hm1, by show 8 - (m + 1) < 8 - m; omega⟩
          repeat' (first | exact trivial | exact .inl (DLe.refl _) | exact .inl (DLe.nil _ _) | (refine .inr ⟨rfl, _, ?_, rfl⟩; rfl) | exact rfl | exact Nat.zero_le _ | constructor)
        · refine Fork.intro (fun g2 => absurd (of_decide_eq_true g2) (by simp only [e8, hl]; omega)) (fun _ => ?_)
          conv => whnf
          by_cases h7 : m = 0
          · obtain rfl : z = 13 := by rw [h7, show 7 - 0 = 7 from rfl, D17] at hz; injection hz with hz; exact hz.symm
            refine Fork.intro (b := decide (((7 - m : Nat) : Int) = 7)) (fun _ => ?_) (fun g3 => absurd (of_decide_eq_false g3) (by omega))
            conv => whnf
            refine ⟨by decide, ?_⟩
            conv => whnf
            simp only [hl, e13]
            conv => whnf
            simp only [hstep, ej]
            refine ⟨m + 1, [], [], ?_, hm1, by show 8 - (m + 1) < 8 - m; omega⟩
            repeat' (first | exact trivial | exact .inl (DLe.refl _) | exact .inl (DLe.nil _ _) | (refine .inr ⟨rfl, _, ?_, rfl⟩; rfl) | exact rfl | exact Nat.zero_le _ | constructor)
          · obtain rfl : z = 0 := D1z (7 - m) z (by omega) (by omega) hz
            refine Fork.intro (fun g3 => absurd (of_decide_eq_true g3) (by omega)) (fun _ => ?_)
            conv => whnf
            simp only [hstep, ej]
            refine ⟨m + 1, [], [], ?_, hm1, by show 8 - (m + 1) < 8 - m; omega⟩
            repeat' (first | exact trivial | exact .inl (DLe.refl _) | exact .inl (DLe.nil _ _) | (refine .inr ⟨rfl, _, ?_, rfl⟩; rfl) | exact rfl | exact Nat.zero_le _ | constructor)
      | false =>
        have hm8 : m = 8 := by have := of_decide_eq_false g1; omega
        subst hm8
        rw [show D1.drop (8 - 8) = D1 from rfl]
        conv => whnf
        refine ⟨by decide, ?_⟩
        conv => whnf
        refine ⟨by decide, ?_⟩
        conv => whnf
        refine CallVC.pure (rround_fn ⟨s1.a, s1.b, s1.c, xorI s1.d (leI D1)⟩ ⟨hs1k.1, hs1k.2.1, hs1k.2.2.1, xorI_in _ _⟩) rfl ?_
        rintro _ rfl
        generalize hr1 : rnd ⟨s1.a, s1.b, s1.c, xorI s1.d (leI D1)⟩ = r1
        have hk1 : r1.ok := by rw [← hr1]; exact rnd_ok _
        conv => whnf
        refine CallVC.pure (rround_fn r1 hk1) rfl ?_
        rintro _ rfl
        generalize hr2 : rnd r1 = r2
        conv => whnf
        refine ⟨by decide, ?_⟩
        conv => whnf
        refine ⟨by decide, ?_⟩
        conv => whnf
        obtain rfl : s2 = ⟨xorI r2.a (leI D1), r2.b, r2.c, r2.d⟩ := by rw [es2, ← hr2, ← hr1]; rfl
        rw [show IntKind.i64.wrap (((1 : Nat) : Int) + 1) = ((2 : Nat) : Int) from rfl]
        refine ⟨2, [], [], ?_, by decide, by decide⟩
        repeat' (first | exact trivial | exact .inl (DLe.refl _) | exact .inl (DLe.nil _ _) | (refine .inr ⟨rfl, _, ?_, rfl⟩; rfl) | exact rfl | exact Nat.zero_le _ | constructor)
  · conv => whnf
    rw [show decide (((2 : Nat) : Int) < 2) = false from rfl]
    conv => whnf
    refine ⟨by decide, ?_⟩
    conv => whnf
    refine ⟨by decide, ?_⟩
    conv => whnf
    refine CallVC.pure (rround_fn ⟨s2.a, s2.b, xorI s2.c 255, s2.d⟩ ⟨hs2k.1, hs2k.2.1, xorI_in _ _, hs2k.2.2.2⟩) rfl ?_
    rintro _ rfl
    generalize hr1 : rnd ⟨s2.a, s2.b, xorI s2.c 255, s2.d⟩ = r1
    have hk1 : r1.ok := by rw [← hr1]; exact rnd_ok _
    conv => whnf
    refine CallVC.pure (rround_fn r1 hk1) rfl ?_
    rintro _ rfl
    generalize hr2 : rnd r1 = r2
    have hk2 : r2.ok := by rw [← hr2]; exact rnd_ok _
    conv => whnf
    refine CallVC.pure (rround_fn r2 hk2) rfl ?_
    rintro _ rfl
    generalize hr3 : rnd r2 = r3
    have hk3 : r3.ok := by rw [← hr3]; exact rnd_ok _
    conv => whnf
    refine CallVC.pure (rround_fn r3 hk3) rfl ?_
    rintro _ rfl
    generalize hr4 : rnd r3 = r4
    conv => whnf
    repeat (refine ⟨by decide, ?_⟩; conv => whnf)
    rw [hsum]
    subst hr4 hr3 hr2 hr1
    rfl
end Go.Proofs.Ytcbpdjikdohegaa.V
