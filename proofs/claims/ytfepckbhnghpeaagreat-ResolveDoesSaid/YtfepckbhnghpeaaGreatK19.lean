/-
  The document's net: frozen, its cache a cluster. Conditions: the configuration's cells are numbers of their kinds; few bytes. (Printed by gen_ek.py, gen_eb.py.)
  The document's net: Heard, Tick, New. Conditions: the configuration's cells are numbers of their kinds; few bytes. (Printed by gen_el.py.)
-/
import Derived.Test.YtfepckbhnghpeaaGreatK18
namespace Go.Proofs.YtfepckbhnghpeaaGreat.V
open Go.RowKit
attribute [local irreducible] Fn FnN FnR OpVC DLe ArC ArL Ob ObS NewS

theorem rsame_fn (A B : List Sn2) (hA : A.length ≤ 1000000) (hb : ∀ x ∈ A, x.2.length ≤ 1000000) : Fn Tryz.prog 11 [sentsR A, sentsR B] fun d => d = boolD (decide (A = B)) := by
  refine fnOf [] Tryz.func11 rfl (by kernel_rfl) (Nat.le_of_ble_eq_true rfl) ?_
  conv => whnf
  refine Fork.intro (fun q => ?_) (fun q => ?_)
  · rw [decide_eq_false (show ¬ A = B by rintro rfl; exact ndTc q rfl)]
    conv => whnf
    try rfl
  have q : A.length = B.length := by have := ndFc q; omega
  conv => whnf
  refine ⟨Nat, fun k => ⟨[(5, intD k), (1, sentsR B), (0, sentsR A)], [], 0, ([], 0)⟩, fun k => k ≤ A.length ∧ A.take k = B.take k, fun k => A.length - k, ⟨0, [], [], ?_, Nat.zero_le _, rfl⟩, ?_⟩
  · repeat' (first | exact trivial | exact .inl (DLe.refl _) | exact .inl (DLe.nil _ _) | (refine .inr ⟨rfl, _, ?_, rfl⟩; rfl) | exact rfl | exact .inl rfl | exact .inr ⟨rfl, rfl, rfl, rfl⟩ | exact Nat.zero_le _ | constructor)
  rintro k ⟨hk, he⟩
  have e0 : IntKind.i64.wrap ((k : Int) + 1) = ((k + 1 : Nat) : Int) := by rw [IntWalk.i64_in _ (by omega)]; omega
  conv => whnf
  refine Fork.intro (fun q1 => ?_) (fun q1 => ?_)
  · have q1 : k < A.length := by have := of_decide_eq_true q1; omega
    obtain ⟨x, hx⟩ : ∃ x, A[k]? = some x := ⟨_, List.getElem?_eq_getElem q1⟩
    obtain ⟨y, hy⟩ : ∃ y, B[k]? = some y := ⟨_, List.getElem?_eq_getElem (by omega)⟩
    have hs := rSame_fn x.2 y.2 (hb x (List.mem_of_getElem? hx))
    conv => whnf
    refine ⟨rfl, ⟨by omega, by omega⟩, fun x' hx' => ?_⟩
    obtain rfl : x = x' := Option.some.inj (hx.symm.trans hx')
    conv => whnf
    refine ⟨rfl, ⟨by omega, by omega⟩, fun y' hy' => ?_⟩
    obtain rfl : y = y' := Option.some.inj (hy.symm.trans hy')
    conv => whnf
    cases hxy1 : decide (x.1 = y.1) with
    | false =>
      have hne := of_decide_eq_false hxy1
      conv => whnf
      rw [decide_eq_false (show ¬ A = B by rintro rfl; rw [hx] at hy; injection hy with hy; exact hne (by rw [hy]))]
      try rfl
    | true =>
    have hxy1 := of_decide_eq_true hxy1
    conv => whnf
    refine ⟨rfl, ⟨by omega, by omega⟩, fun x' hx' => ?_⟩
    obtain rfl : x = x' := Option.some.inj (hx.symm.trans hx')
    conv => whnf
    refine ⟨rfl, ⟨by omega, by omega⟩, fun y' hy' => ?_⟩
    obtain rfl : y = y' := Option.some.inj (hy.symm.trans hy')
    conv => whnf
    (refine CallVC.pure (hs) rfl ?_; rintro _ rfl; conv => whnf)
    cases hxy : decide (x.2 = y.2) with
    | false =>
      have hne := of_decide_eq_false hxy
      conv => whnf
      rw [decide_eq_false (show ¬ A = B by rintro rfl; rw [hx] at hy; injection hy with hy; exact hne (by rw [hy]))]
      try rfl
    | true =>
      have hxy := of_decide_eq_true hxy
      have hxx : x = y := Prod.ext hxy1 hxy
      conv => whnf
      rw [e0]
      refine ⟨k + 1, [], [], ?_, ⟨q1, by rw [List.take_add_one, List.take_add_one, hx, hy, he, hxx]⟩, by show A.length - (k + 1) < A.length - k; omega⟩
      repeat' (first | exact trivial | exact .inl (DLe.refl _) | exact .inl (DLe.nil _ _) | (refine .inr ⟨rfl, _, ?_, rfl⟩; rfl) | exact rfl | exact .inl rfl | exact .inr ⟨rfl, rfl, rfl, rfl⟩ | exact Nat.zero_le _ | constructor)
  · have q1 : k = A.length := by have := of_decide_eq_false q1; omega
    subst q1
    rw [List.take_length, q, List.take_length] at he
    conv => whnf
    rw [decide_eq_true he]
    try rfl

abbrev netQ (c : Nat → Int) : D := .fp (cfgC c ++ [.loc 1 0])
abbrev nqH (X0 : LO) (S : Nat → Prop) (c : Nat → Int) (now : Int) (T : List Pl) (R : List (Nat × LO)) : List (Nat × LO) := (0, X0) :: (1, .obj (.sep S (qcA c now T))) :: R
theorem mac_look (c : Nat → Int) (now : Int) (T : List Pl) (k : Int × Int) (hs : SortT T) (hT : T.length ≤ 1000000) : FnN Tryz.prog 36 [.sp (qcA c now T), .agg (plC k)] fun r => r = macT T k := qc_look ⟨_, Tryz.func36, rfl⟩ (rmac_fn c now T k hs hT)
set_option maxRecDepth 10000 in
set_option maxHeartbeats 8000000 in
theorem rsend_vc (F : List (Nat × D)) (G : List Nat × Nat) (X0 X2 X3 : LO) (S : Nat → Prop) (c : Nat → Int) (z : Nat → Nat) (now : Int) (T : List Pl) (p : Pkt) (hw : cfgW c) (hz : cfgZ c z) (hz2 : z 12 < 4294967296 ∧ z 13 < 4294967296) (hs : SortT T) (hm : ∀ x ∈ T, MacN x.mac) (hT : T.length ≤ 90000) (hwt : waitsT T ≤ 90000) (hp : p.ok) (hl : p.opts.length ≤ 50 ∧ p.data.length ≤ 300) {K : D → St → Prop}
    (hF : F.all (fun p => cutOk 6 4 p.2) = true) (hG : Nat.ble G.2 4 = true) (hX0 : ∀ r z n, LOLe r z n X0 X0) (hX2 : ∀ r z n, LOLe r z n X2 X2) (hX3 : ∀ r z n, LOLe r z n X3 X3)
    (hK : ∀ S', K (.tup [sentsR (sendT c z now T p).1.1, intD (sendT c z now T p).1.2]) ⟨F, nqH X0 S' c now (sendT c z now T p).2 [(2, X2), (3, X3)], 4, G⟩) : CallVC Tryz.prog false 10 [netQ c, .agg (pktD p)] ⟨F, nqH X0 S c now T [(2, X2), (3, X3)], 4, G⟩ K := by
  refine toInQ 4 [(4, [1001, 0, 1, 2, 3, 4, 5, 7, 8, 9, 12]), (7, [1001, 0, 1, 2, 3, 4, 6, 7, 8, 11]), (10, [0, 1, 2, 3, 4, 5, 5006, 7, 8, 9, 10, 11])] Tryz.func10 rfl (by kernel_rfl) (Nat.le_of_ble_eq_true rfl) (by decide) hG rfl hF ?_
  have hput := rPutP_fn p hp (by omega) (by omega)
  have hof := rOfA_fn c hw (p.dst : Int) ⟨by omega, by have := hp.dst; omega⟩
  have hok := ofN_ok hw (a := (p.dst : Int)) (by have := hp.dst; omega)
  have hplen := putP_len hl
  unfold ofD at hof
  unfold sendT at hK
  generalize ofN (p.dst : Int) c = O at hof hok hK
  obtain ⟨dst, x⟩ := O
  obtain ⟨hd1, hd2⟩ := hok
  dsimp only at hof hd1 hd2 hK
  unfold ipB at hput
  cases hmay : mayP p with
  | false =>
    rw [hmay] at hput hK
    conv => whnf
    (refine CallVC.pure (hput) rfl ?_; rintro _ rfl; conv => whnf)
    refine ⟨[], [], _, _, _, ?_, hK S⟩
    refine ⟨⟨.inl sentN, trivial⟩, ?_⟩
    ((repeat' (first | exact trivial | exact .inl (DLe.refl _) | exact .inl (DLe.nil _ _) | (refine .inr ⟨rfl, _, ?_, rfl⟩; rfl) | exact rfl | exact .inl rfl | exact .inr ⟨rfl, rfl, rfl, rfl⟩ | exact Nat.zero_le _ | constructor)) <;> first | exact hX0 _ _ _ | exact hX2 _ _ _ | exact hX3 _ _ _)
  | true =>
    rw [hmay] at hput hK
    dsimp only at hput hK
    generalize hB : putP p = B at hput hplen hK
    conv => whnf
    (refine CallVC.pure (hput) rfl ?_; rintro _ rfl; conv => whnf)
    cases hlt : decide (c 17 < (B.length : Int)) with
    | true =>
      rw [hlt] at hK
      conv => whnf
      refine ⟨[], [], _, _, _, ?_, hK S⟩
      refine ⟨⟨.inl sentN, trivial⟩, ?_⟩
      ((repeat' (first | exact trivial | exact .inl (DLe.refl _) | exact .inl (DLe.nil _ _) | (refine .inr ⟨rfl, _, ?_, rfl⟩; rfl) | exact rfl | exact .inl rfl | exact .inr ⟨rfl, rfl, rfl, rfl⟩ | exact Nat.zero_le _ | constructor)) <;> first | exact hX0 _ _ _ | exact hX2 _ _ _ | exact hX3 _ _ _)
    | false =>
    rw [hlt] at hK
    dsimp only at hK
    conv => whnf
    refine ⟨Unit, fun _ => ⟨[(8, .loc 5 0), (9, intD x), (6, octR B), (3, .loc 4 0), (0, netQ c)], (5, .cells 81 (plC dst)) :: (4, .cells 43 (pktD p)) :: nqH X0 S c now T [(2, X2), (3, X3)], 6, (upto 4 0, 4)⟩, ?_, fun _ => ?_⟩
    · refine ⟨?_, ?_, trivial⟩
      · conv => whnf
        refine CallVC.pure hof rfl ?_
        rintro _ rfl
        conv => whnf
        refine ⟨?_, trivial⟩
        · conv => whnf
          refine ⟨?_, trivial⟩
          · conv => whnf
            refine ⟨(), [], [], ?_⟩
            ((repeat' (first | exact trivial | exact .inl (DLe.refl _) | exact .inl (DLe.nil _ _) | (refine .inr ⟨rfl, _, ?_, rfl⟩; rfl) | exact rfl | exact .inl rfl | exact .inr ⟨rfl, rfl, rfl, rfl⟩ | exact Nat.zero_le _ | constructor)) <;> first | exact hX0 _ _ _ | exact hX2 _ _ _ | exact hX3 _ _ _)
      · conv => whnf
        refine ⟨?_, trivial⟩
        · conv => whnf
          refine CallVC.pure hof rfl ?_
          rintro _ rfl
          conv => whnf
          refine ⟨?_, trivial⟩
          · conv => whnf
            refine ⟨(), [], [], ?_⟩
            ((repeat' (first | exact trivial | exact .inl (DLe.refl _) | exact .inl (DLe.nil _ _) | (refine .inr ⟨rfl, _, ?_, rfl⟩; rfl) | exact rfl | exact .inl rfl | exact .inr ⟨rfl, rfl, rfl, rfl⟩ | exact Nat.zero_le _ | constructor)) <;> first | exact hX0 _ _ _ | exact hX2 _ _ _ | exact hX3 _ _ _)
    conv => whnf
    cases hx : decide (x = 0) with
    | false =>
      rw [hx] at hK
      conv => whnf
      refine ⟨[], [], _, _, _, ?_, hK S⟩
      refine ⟨⟨.inl sentN, trivial⟩, ?_⟩
      ((repeat' (first | exact trivial | exact .inl (DLe.refl _) | exact .inl (DLe.nil _ _) | (refine .inr ⟨rfl, _, ?_, rfl⟩; rfl) | exact rfl | exact .inl rfl | exact .inr ⟨rfl, rfl, rfl, rfl⟩ | exact Nat.zero_le _ | constructor)) <;> first | exact hX0 _ _ _ | exact hX2 _ _ _ | exact hX3 _ _ _)
    | true =>
    rw [hx] at hK
    dsimp only at hK
    have hmk := mac_known T dst
    have hkw : keyW dst := ⟨hd2, by omega, by omega⟩
    have hml := mac_look c now T dst hs (by omega)
    conv => whnf
    cases hkn : knownT T dst with
    | some m =>
      obtain ⟨y, hy, hym⟩ := known_mem hkn
      have hmn : MacN m := hym ▸ hm y hy
      rw [hkn] at hmk hK
      dsimp only at hmk hK
      have hmac : macT T dst = .tup [.agg (m6D (macNL m)), boolD true] := by rw [hmk]; unfold macD; rw [macC_nat hmn]
      have hf := rframe_fn c z hz dst.1 hd1 (m 0).toNat (m 1).toNat (m 2).toNat (m 3).toNat (m 4).toNat (m 5).toNat B (by omega)
      rw [hmac] at hml
      refine ⟨Unit, fun _ => ⟨[(11, boolD true), (10, .loc 6 0), (8, .loc 5 0), (6, octR B), (0, netQ c)], (6, .cells 23 (m6D (macNL m))) :: (5, .cells 81 (plC dst)) :: (4, .cells 43 (pktD p)) :: nqH X0 S c now T [(2, X2), (3, X3)], 7, (upto 4 0, 4)⟩, ?_, fun _ => ?_⟩
      · refine ⟨?_, ?_, trivial⟩
        · conv => whnf
          refine CallVC.look hml rfl ?_
          rintro _ rfl
          conv => whnf
          refine ⟨?_, trivial⟩
          · conv => whnf
            refine ⟨?_, trivial⟩
            · conv => whnf
              refine ⟨(), [], [], ?_⟩
              ((repeat' (first | exact trivial | exact .inl (DLe.refl _) | exact .inl (DLe.nil _ _) | (refine .inr ⟨rfl, _, ?_, rfl⟩; rfl) | exact rfl | exact .inl rfl | exact .inr ⟨rfl, rfl, rfl, rfl⟩ | exact Nat.zero_le _ | constructor)) <;> first | exact hX0 _ _ _ | exact hX2 _ _ _ | exact hX3 _ _ _)
        · conv => whnf
          refine ⟨?_, trivial⟩
          · conv => whnf
            refine CallVC.look hml rfl ?_
            rintro _ rfl
            conv => whnf
            refine ⟨?_, trivial⟩
            · conv => whnf
              refine ⟨(), [], [], ?_⟩
              ((repeat' (first | exact trivial | exact .inl (DLe.refl _) | exact .inl (DLe.nil _ _) | (refine .inr ⟨rfl, _, ?_, rfl⟩; rfl) | exact rfl | exact .inl rfl | exact .inr ⟨rfl, rfl, rfl, rfl⟩ | exact Nat.zero_le _ | constructor)) <;> first | exact hX0 _ _ _ | exact hX2 _ _ _ | exact hX3 _ _ _)
      conv => whnf
      refine CallVC.wk (fun C vs hr => reps_one (l := []) (dle_fpj _ _) hr) (CallVC.pure hf rfl ?_)
      rintro _ rfl
      conv => whnf
      refine ⟨by decide, ?_⟩
      conv => whnf
      refine ⟨[], [], _, _, _, ?_, hK S⟩
      refine ⟨⟨.inl (sentQ _), trivial⟩, ?_⟩
      ((repeat' (first | exact trivial | exact .inl (DLe.refl _) | exact .inl (DLe.nil _ _) | (refine .inr ⟨rfl, _, ?_, rfl⟩; rfl) | exact rfl | exact .inl rfl | exact .inr ⟨rfl, rfl, rfl, rfl⟩ | exact Nat.zero_le _ | constructor)) <;> first | exact hX0 _ _ _ | exact hX2 _ _ _ | exact hX3 _ _ _)
    | none =>
      rw [hkn] at hmk hK
      dsimp only at hmk hK
      have hmac : macT T dst = .tup [.agg (macC mac0), boolD false] := hmk
      rw [hmac] at hml
      have hwant := rwant_obs c now T dst B hkw.1 (by omega) hs hT hwt
      have hf := rask_fn c z hz hz2 dst hd1 hd2
      refine ⟨Unit, fun _ => ⟨[(11, boolD false), (10, .loc 6 0), (8, .loc 5 0), (6, octR B), (0, netQ c)], (6, .cells 23 (macC mac0)) :: (5, .cells 81 (plC dst)) :: (4, .cells 43 (pktD p)) :: nqH X0 S c now T [(2, X2), (3, X3)], 7, (upto 4 0, 4)⟩, ?_, fun _ => ?_⟩
      · refine ⟨?_, ?_, trivial⟩
        · conv => whnf
          refine CallVC.look hml rfl ?_
          rintro _ rfl
          conv => whnf
          refine ⟨?_, trivial⟩
          · conv => whnf
            refine ⟨?_, trivial⟩
            · conv => whnf
              refine ⟨(), [], [], ?_⟩
              ((repeat' (first | exact trivial | exact .inl (DLe.refl _) | exact .inl (DLe.nil _ _) | (refine .inr ⟨rfl, _, ?_, rfl⟩; rfl) | exact rfl | exact .inl rfl | exact .inr ⟨rfl, rfl, rfl, rfl⟩ | exact Nat.zero_le _ | constructor)) <;> first | exact hX0 _ _ _ | exact hX2 _ _ _ | exact hX3 _ _ _)
        · conv => whnf
          refine ⟨?_, trivial⟩
          · conv => whnf
            refine CallVC.look hml rfl ?_
            rintro _ rfl
            conv => whnf
            refine ⟨?_, trivial⟩
            · conv => whnf
              refine ⟨(), [], [], ?_⟩
              ((repeat' (first | exact trivial | exact .inl (DLe.refl _) | exact .inl (DLe.nil _ _) | (refine .inr ⟨rfl, _, ?_, rfl⟩; rfl) | exact rfl | exact .inl rfl | exact .inr ⟨rfl, rfl, rfl, rfl⟩ | exact Nat.zero_le _ | constructor)) <;> first | exact hX0 _ _ _ | exact hX2 _ _ _ | exact hX3 _ _ _)
      conv => whnf
      unfold waitS at hK
      refine CallVC.obs (i := 1) hwant rfl rfl ?_
      rintro _ _ S1 ⟨rfl, rfl⟩
      clear hwant
      generalize wantT c now T dst B = W at hK ⊢
      obtain ⟨⟨ask, y⟩, T'⟩ := W
      dsimp only at hK ⊢
      conv => whnf
      cases hy : decide (y = 0) with
      | false =>
        rw [hy] at hK
        conv => whnf
        refine ⟨[], [], _, _, _, ?_, hK S1⟩
        refine ⟨⟨.inl sentN, trivial⟩, ?_⟩
        ((repeat' (first | exact trivial | exact .inl (DLe.refl _) | exact .inl (DLe.nil _ _) | (refine .inr ⟨rfl, _, ?_, rfl⟩; rfl) | exact rfl | exact .inl rfl | exact .inr ⟨rfl, rfl, rfl, rfl⟩ | exact Nat.zero_le _ | constructor)) <;> first | exact hX0 _ _ _ | exact hX2 _ _ _ | exact hX3 _ _ _)
      | true =>
        rw [hy] at hK
        cases ask with
        | false =>
          conv => whnf
          refine ⟨[], [], _, _, _, ?_, hK S1⟩
          refine ⟨⟨.inl sentN, trivial⟩, ?_⟩
          ((repeat' (first | exact trivial | exact .inl (DLe.refl _) | exact .inl (DLe.nil _ _) | (refine .inr ⟨rfl, _, ?_, rfl⟩; rfl) | exact rfl | exact .inl rfl | exact .inr ⟨rfl, rfl, rfl, rfl⟩ | exact Nat.zero_le _ | constructor)) <;> first | exact hX0 _ _ _ | exact hX2 _ _ _ | exact hX3 _ _ _)
        | true =>
          conv => whnf
          refine CallVC.wk (fun C vs hr => reps_one (l := []) (dle_fpj _ _) hr) (CallVC.pure hf rfl ?_)
          rintro _ rfl
          conv => whnf
          refine ⟨by decide, ?_⟩
          conv => whnf
          refine ⟨[], [], _, _, _, ?_, hK S1⟩
          refine ⟨⟨.inl (sentQ _), trivial⟩, ?_⟩
          ((repeat' (first | exact trivial | exact .inl (DLe.refl _) | exact .inl (DLe.nil _ _) | (refine .inr ⟨rfl, _, ?_, rfl⟩; rfl) | exact rfl | exact .inl rfl | exact .inr ⟨rfl, rfl, rfl, rfl⟩ | exact Nat.zero_le _ | constructor)) <;> first | exact hX0 _ _ _ | exact hX2 _ _ _ | exact hX3 _ _ _)
end Go.Proofs.YtfepckbhnghpeaaGreat.V
namespace Go.Proofs.YtfepckbhnghpeaaGreat.V
open Go.RowKit
attribute [local irreducible] Fn FnN FnR OpVC DLe ArC ArL Ob ObS NewS

set_option maxRecDepth 10000 in
set_option maxHeartbeats 16000000 in
theorem rheard_vc (F : List (Nat × D)) (G : List Nat × Nat) (X0 X2 : LO) (S : Nat → Prop) (c : Nat → Int) (z : Nat → Nat) (now : Int) (T : List Pl) (nic : Int) (op sip dip x0 x1 x2 x3 x4 x5 y0 y1 y2 y3 y4 y5 : Nat) (hw : cfgW c) (hz : cfgZ c z) (hz2 : z 12 < 4294967296 ∧ z 13 < 4294967296) (hst : SortT T) (hT : T.length ≤ 90000) (hwt : waitsT T ≤ 1000) (hfr : ∀ x ∈ T, ∀ b ∈ x.ws, b.length ≤ 1000)
    (h1 : op < 65536) (h2 : sip < 4294967296) (h3 : dip < 4294967296) {K : D → St → Prop} (hF : F.all (fun p => cutOk 6 3 p.2) = true) (hG : Nat.ble G.2 3 = true) (hX0 : ∀ r z n, LOLe r z n X0 X0) (hX2 : ∀ r z n, LOLe r z n X2 X2)
    (hK : ∀ S' L T', heardT c z now T nic ⟨op, [x0, x1, x2, x3, x4, x5], sip, [y0, y1, y2, y3, y4, y5], dip⟩ = (L, T') → K (.grow 3) ⟨F, nqH X0 S' c now T' [(2, X2), (3, .grow Sn2 70 2 sentC L)], 4, G⟩) : CallVC Tryz.prog false 13 [netQ c, intD nic, .agg (arpD ⟨op, [x0, x1, x2, x3, x4, x5], sip, [y0, y1, y2, y3, y4, y5], dip⟩)] ⟨F, nqH X0 S c now T [(2, X2)], 3, G⟩ K := by
  rw [show arpD ⟨op, [x0, x1, x2, x3, x4, x5], sip, [y0, y1, y2, y3, y4, y5], dip⟩ = [u16D op, u8D x0, u8D x1, u8D x2, u8D x3, u8D x4, u8D x5, u32D sip, u8D y0, u8D y1, u8D y2, u8D y3, u8D y4, u8D y5, u32D dip] from rfl]
  refine toInQ 3 [(6, [0, 1, 2, 3, 4, 5, 6, 7, 8, 9, 10, 11, 12, 13, 5014, 15, 16, 17, 18, 19])] Tryz.func13 rfl (by kernel_rfl) (Nat.le_of_ble_eq_true rfl) (by decide) hG rfl hF ?_
  cases hn0 : decide (nic = 0) with
  | false =>
    cases hn1 : decide (nic = 1) with
    | false =>
      have hH : heardT c z now T nic ⟨op, [x0, x1, x2, x3, x4, x5], sip, [y0, y1, y2, y3, y4, y5], dip⟩ = ([], T) := by unfold heardT; rw [hn0, hn1]; rfl
      have q0 := of_decide_eq_false hn0
      have q1 := of_decide_eq_false hn1
      cases hl : decide (nic < 0) with
      | true =>
        conv => whnf
        rw [hl]
        conv => whnf
        refine ⟨[(3, 70)], [3], _, _, _, ?_, hK S [] T hH⟩
        ((repeat' (first | exact trivial | exact .inl (DLe.refl _) | exact .inl (DLe.nil _ _) | (refine .inr ⟨rfl, _, ?_, rfl⟩; rfl) | exact rfl | exact .inl rfl | exact .inr ⟨rfl, rfl, rfl, rfl⟩ | exact Nat.zero_le _ | constructor)) <;> first | exact hX0 _ _ _ | exact hX2 _ _ _)
      | false =>
        conv => whnf
        rw [hl]
        conv => whnf
        rw [decide_eq_true (show (1 : Int) < nic by have := of_decide_eq_false hl; omega)]
        conv => whnf
        refine ⟨[(3, 70)], [3], _, _, _, ?_, hK S [] T hH⟩
        ((repeat' (first | exact trivial | exact .inl (DLe.refl _) | exact .inl (DLe.nil _ _) | (refine .inr ⟨rfl, _, ?_, rfl⟩; rfl) | exact rfl | exact .inl rfl | exact .inr ⟨rfl, rfl, rfl, rfl⟩ | exact Nat.zero_le _ | constructor)) <;> first | exact hX0 _ _ _ | exact hX2 _ _ _)
    | true =>
      obtain rfl : nic = 1 := of_decide_eq_true hn1
      have e6 := hz 6 (by decide)
      have e7 := hz 7 (by decide)
      have e8 := hz 8 (by decide)
      have e9 := hz 9 (by decide)
      have e10 := hz 10 (by decide)
      have e11 := hz 11 (by decide)
      have e13 := hz 13 (by decide)
      obtain ⟨w12, w13, w16⟩ := cfgW_u32 hw
      obtain ⟨w14, w15⟩ := cfgW_i64 hw
      have hho := rHostF_fn (sip : Int) (c 13) (c 15) ⟨by omega, by omega⟩ w13 w15.1
      rw [e13] at hho w13
      have hH0 : heardT c z now T 1 ⟨op, [x0, x1, x2, x3, x4, x5], sip, [y0, y1, y2, y3, y4, y5], dip⟩ = ((learnS c z now T 1 ⟨op, [x0, x1, x2, x3, x4, x5], sip, [y0, y1, y2, y3, y4, y5], dip⟩).1.map (frameS z 1 [x0, x1, x2, x3, x4, x5]) ++ ansL z 1 ⟨op, [x0, x1, x2, x3, x4, x5], sip, [y0, y1, y2, y3, y4, y5], dip⟩, (learnS c z now T 1 ⟨op, [x0, x1, x2, x3, x4, x5], sip, [y0, y1, y2, y3, y4, y5], dip⟩).2) := rfl
      conv => whnf
      refine ⟨(show (0 : Int) ≤ 1 ∧ (1 : Int) < ((2 : Nat) : Int) by decide), ?_⟩
      conv => whnf
      rw [e13]
      refine ⟨(show (0 : Int) ≤ 1 ∧ (1 : Int) < ((2 : Nat) : Int) by decide), ?_⟩
      conv => whnf
      cases hho2 : hostB (sip : Int) (z 13 : Int) (c 15) with
      | false =>
        rw [hho2] at hho
        have hL : learnS c z now T 1 ⟨op, [x0, x1, x2, x3, x4, x5], sip, [y0, y1, y2, y3, y4, y5], dip⟩ = ([], T) := by
          unfold learnS
          exact (show (match decide ((sip : Int) = (z 13 : Int)) with | true => (([], T) : List (List Nat) × List Pl) | false => match hostB (sip : Int) (z 13 : Int) (c 15) with | false => ([], T) | true => _) = ([], T) by rw [hho2]; split <;> rfl)
        (refine CallVC.pure (hho) rfl ?_; rintro _ rfl; conv => whnf)
        cases hop : decide ((op : Int) = 1) with
        | false =>
          have hans : ansL z 1 ⟨op, [x0, x1, x2, x3, x4, x5], sip, [y0, y1, y2, y3, y4, y5], dip⟩ = [] := by unfold ansL; rw [hop]
          conv => whnf
          refine ⟨[(3, 70)], [3], _, _, _, ?_, hK S [] T (by rw [hH0, hL]; dsimp only; rw [hans]; try rfl)⟩
          ((repeat' (first | exact trivial | exact .inl (DLe.refl _) | exact .inl (DLe.nil _ _) | (refine .inr ⟨rfl, _, ?_, rfl⟩; rfl) | exact rfl | exact .inl rfl | exact .inr ⟨rfl, rfl, rfl, rfl⟩ | exact Nat.zero_le _ | constructor)) <;> first | exact hX0 _ _ _ | exact hX2 _ _ _)
        | true =>
          cases hdp : decide ((dip : Int) = (z 13 : Int)) with
          | false =>
            have hans : ansL z 1 ⟨op, [x0, x1, x2, x3, x4, x5], sip, [y0, y1, y2, y3, y4, y5], dip⟩ = [] := by unfold ansL; rw [hop]; exact (show (match decide ((dip : Int) = (z 13 : Int)) with | false => [] | true => _) = [] by rw [hdp])
            conv => whnf
            rw [hdp]
            conv => whnf
            refine ⟨[(3, 70)], [3], _, _, _, ?_, hK S [] T (by rw [hH0, hL]; dsimp only; rw [hans]; try rfl)⟩
            ((repeat' (first | exact trivial | exact .inl (DLe.refl _) | exact .inl (DLe.nil _ _) | (refine .inr ⟨rfl, _, ?_, rfl⟩; rfl) | exact rfl | exact .inl rfl | exact .inr ⟨rfl, rfl, rfl, rfl⟩ | exact Nat.zero_le _ | constructor)) <;> first | exact hX0 _ _ _ | exact hX2 _ _ _)
          | true =>
            have hdd : dip = z 13 := by have := of_decide_eq_true hdp; omega
            have hans : ansL z 1 ⟨op, [x0, x1, x2, x3, x4, x5], sip, [y0, y1, y2, y3, y4, y5], dip⟩ = [answerS z 1 ⟨op, [x0, x1, x2, x3, x4, x5], sip, [y0, y1, y2, y3, y4, y5], dip⟩] := by unfold ansL; rw [hop]; exact (show (match decide ((dip : Int) = (z 13 : Int)) with | false => [] | true => _) = _ by rw [hdp])
            have hfm := rPutA_fn 2 (z 13) sip (z 6) (z 7) (z 8) (z 9) (z 10) (z 11) x0 x1 x2 x3 x4 x5 (by decide) hz2.2 h2
            have hpe := rPutE_fn x0 x1 x2 x3 x4 x5 (z 6) (z 7) (z 8) (z 9) (z 10) (z 11) 2054 (putA ⟨2, [z 6, z 7, z 8, z 9, z 10, z 11], z 13, [x0, x1, x2, x3, x4, x5], sip⟩) (by decide) (by simp [putA, firstA, b2, b4])
            conv => whnf
            rw [hdp]
            conv => whnf
            refine ⟨(show (0 : Int) ≤ 1 ∧ (1 : Int) < ((2 : Nat) : Int) by decide), ?_⟩
            conv => whnf
            rw [e6, e7, e8, e9, e10, e11]
            (refine CallVC.pure (hfm) rfl ?_; rintro _ rfl; conv => whnf)
            (refine CallVC.pure (hpe) rfl ?_; rintro _ rfl; conv => whnf)
            refine ⟨by decide, ?_⟩
            conv => whnf
            refine ⟨Sn2, sentC, ([] : List Sn2) ++ [answerS z 1 ⟨op, [x0, x1, x2, x3, x4, x5], sip, [y0, y1, y2, y3, y4, y5], dip⟩], by rw [List.map_append]; rfl, fun _ => rfl, by rw [List.length_append]; show 0 + 1 ≤ _; omega, by rw [List.length_append]; show (0 + 1) * 32 ≤ _; omega, rfl, ?_⟩
            conv => whnf
            refine ⟨[(3, 5)], [], _, _, _, ?_, hK S (([] : List Sn2) ++ [answerS z 1 ⟨op, [x0, x1, x2, x3, x4, x5], sip, [y0, y1, y2, y3, y4, y5], dip⟩]) T (by rw [hH0, hL]; dsimp only; rw [hans]; try rfl)⟩
            ((repeat' (first | exact trivial | exact .inl (DLe.refl _) | exact .inl (DLe.nil _ _) | (refine .inr ⟨rfl, _, ?_, rfl⟩; rfl) | exact rfl | exact .inl rfl | exact .inr ⟨rfl, rfl, rfl, rfl⟩ | exact Nat.zero_le _ | constructor)) <;> first | exact hX0 _ _ _ | exact hX2 _ _ _)
      | true =>
        rw [hho2] at hho
        (refine CallVC.pure (hho) rfl ?_; rintro _ rfl; conv => whnf)
        cases hs : decide ((sip : Int) = (z 13 : Int)) with
        | true =>
          have hL : learnS c z now T 1 ⟨op, [x0, x1, x2, x3, x4, x5], sip, [y0, y1, y2, y3, y4, y5], dip⟩ = ([], T) := by
            unfold learnS
            exact (show (match decide ((sip : Int) = (z 13 : Int)) with | true => (([], T) : List (List Nat) × List Pl) | false => _) = ([], T) by rw [hs])
          conv => whnf
          cases hop : decide ((op : Int) = 1) with
          | false =>
            have hans : ansL z 1 ⟨op, [x0, x1, x2, x3, x4, x5], sip, [y0, y1, y2, y3, y4, y5], dip⟩ = [] := by unfold ansL; rw [hop]
            conv => whnf
            refine ⟨[(3, 70)], [3], _, _, _, ?_, hK S [] T (by rw [hH0, hL]; dsimp only; rw [hans]; try rfl)⟩
            ((repeat' (first | exact trivial | exact .inl (DLe.refl _) | exact .inl (DLe.nil _ _) | (refine .inr ⟨rfl, _, ?_, rfl⟩; rfl) | exact rfl | exact .inl rfl | exact .inr ⟨rfl, rfl, rfl, rfl⟩ | exact Nat.zero_le _ | constructor)) <;> first | exact hX0 _ _ _ | exact hX2 _ _ _)
          | true =>
            cases hdp : decide ((dip : Int) = (z 13 : Int)) with
            | false =>
              have hans : ansL z 1 ⟨op, [x0, x1, x2, x3, x4, x5], sip, [y0, y1, y2, y3, y4, y5], dip⟩ = [] := by unfold ansL; rw [hop]; exact (show (match decide ((dip : Int) = (z 13 : Int)) with | false => [] | true => _) = [] by rw [hdp])
              conv => whnf
              rw [hdp]
              conv => whnf
              refine ⟨[(3, 70)], [3], _, _, _, ?_, hK S [] T (by rw [hH0, hL]; dsimp only; rw [hans]; try rfl)⟩
              ((repeat' (first | exact trivial | exact .inl (DLe.refl _) | exact .inl (DLe.nil _ _) | (refine .inr ⟨rfl, _, ?_, rfl⟩; rfl) | exact rfl | exact .inl rfl | exact .inr ⟨rfl, rfl, rfl, rfl⟩ | exact Nat.zero_le _ | constructor)) <;> first | exact hX0 _ _ _ | exact hX2 _ _ _)
            | true =>
              have hdd : dip = z 13 := by have := of_decide_eq_true hdp; omega
              have hans : ansL z 1 ⟨op, [x0, x1, x2, x3, x4, x5], sip, [y0, y1, y2, y3, y4, y5], dip⟩ = [answerS z 1 ⟨op, [x0, x1, x2, x3, x4, x5], sip, [y0, y1, y2, y3, y4, y5], dip⟩] := by unfold ansL; rw [hop]; exact (show (match decide ((dip : Int) = (z 13 : Int)) with | false => [] | true => _) = _ by rw [hdp])
              have hfm := rPutA_fn 2 (z 13) sip (z 6) (z 7) (z 8) (z 9) (z 10) (z 11) x0 x1 x2 x3 x4 x5 (by decide) hz2.2 h2
              have hpe := rPutE_fn x0 x1 x2 x3 x4 x5 (z 6) (z 7) (z 8) (z 9) (z 10) (z 11) 2054 (putA ⟨2, [z 6, z 7, z 8, z 9, z 10, z 11], z 13, [x0, x1, x2, x3, x4, x5], sip⟩) (by decide) (by simp [putA, firstA, b2, b4])
              conv => whnf
              rw [hdp]
              conv => whnf
              refine ⟨(show (0 : Int) ≤ 1 ∧ (1 : Int) < ((2 : Nat) : Int) by decide), ?_⟩
              conv => whnf
              rw [e6, e7, e8, e9, e10, e11]
              (refine CallVC.pure (hfm) rfl ?_; rintro _ rfl; conv => whnf)
              (refine CallVC.pure (hpe) rfl ?_; rintro _ rfl; conv => whnf)
              refine ⟨by decide, ?_⟩
              conv => whnf
              refine ⟨Sn2, sentC, ([] : List Sn2) ++ [answerS z 1 ⟨op, [x0, x1, x2, x3, x4, x5], sip, [y0, y1, y2, y3, y4, y5], dip⟩], by rw [List.map_append]; rfl, fun _ => rfl, by rw [List.length_append]; show 0 + 1 ≤ _; omega, by rw [List.length_append]; show (0 + 1) * 32 ≤ _; omega, rfl, ?_⟩
              conv => whnf
              refine ⟨[(3, 5)], [], _, _, _, ?_, hK S (([] : List Sn2) ++ [answerS z 1 ⟨op, [x0, x1, x2, x3, x4, x5], sip, [y0, y1, y2, y3, y4, y5], dip⟩]) T (by rw [hH0, hL]; dsimp only; rw [hans]; try rfl)⟩
              ((repeat' (first | exact trivial | exact .inl (DLe.refl _) | exact .inl (DLe.nil _ _) | (refine .inr ⟨rfl, _, ?_, rfl⟩; rfl) | exact rfl | exact .inl rfl | exact .inr ⟨rfl, rfl, rfl, rfl⟩ | exact Nat.zero_le _ | constructor)) <;> first | exact hX0 _ _ _ | exact hX2 _ _ _)
        | false =>
          have hlearn := rlearn_obs c now T (1, (sip : Int)) (macI [x0, x1, x2, x3, x4, x5]) (decide ((dip : Int) = (z 13 : Int))) ⟨by show (0 : Int) ≤ sip; omega, by show (sip : Int) < 4294967296; omega⟩ hst hT
          have hL : learnS c z now T 1 ⟨op, [x0, x1, x2, x3, x4, x5], sip, [y0, y1, y2, y3, y4, y5], dip⟩ = ((learnT c now T (1, (sip : Int)) (macI [x0, x1, x2, x3, x4, x5]) (decide ((dip : Int) = (z 13 : Int)))).1.1, (learnT c now T (1, (sip : Int)) (macI [x0, x1, x2, x3, x4, x5]) (decide ((dip : Int) = (z 13 : Int)))).2) := by
            unfold learnS
            exact (show (match decide ((sip : Int) = (z 13 : Int)) with | true => (([], T) : List (List Nat) × List Pl) | false => match hostB (sip : Int) (z 13 : Int) (c 15) with | false => ([], T) | true => _) = _ by rw [hs, hho2]; rfl)
          have hwl := learn_waits_le (c := c) (now := now) hst (1, (sip : Int)) (macI [x0, x1, x2, x3, x4, x5]) (decide ((dip : Int) = (z 13 : Int)))
          have htold := learn_told2 (c := c) (now := now) hfr (1, (sip : Int)) (macI [x0, x1, x2, x3, x4, x5]) (decide ((dip : Int) = (z 13 : Int)))
          conv => whnf
          refine CallVC.obs (i := 1) hlearn rfl rfl ?_
          rintro _ _ S1 ⟨rfl, rfl⟩
          clear hlearn
          generalize learnT c now T (1, (sip : Int)) (macI [x0, x1, x2, x3, x4, x5]) (decide ((dip : Int) = (z 13 : Int))) = W at hL hwl htold ⊢
          obtain ⟨⟨told, ok⟩, T'⟩ := W
          dsimp only at hL hwl htold ⊢
          have hf := fun (l : List Nat) (hl : l.length ≤ 900000) => rframe_fn c z hz 1 (.inr rfl) x0 x1 x2 x3 x4 x5 l hl
          conv => whnf
          refine ⟨Nat, fun k => ⟨[(11, intD k), (9, wsR told), (8, u32D (z 13)), (7, .grow 4), (5, .loc 3 0), (1, intD 1), (0, netQ c)], (4, .grow Sn2 70 2 sentC ((told.take k).map (frameS z 1 [x0, x1, x2, x3, x4, x5]))) :: (3, .cells 45 [u16D op, u8D x0, u8D x1, u8D x2, u8D x3, u8D x4, u8D x5, u32D sip, u8D y0, u8D y1, u8D y2, u8D y3, u8D y4, u8D y5, u32D dip]) :: nqH X0 S1 c now T' [(2, X2)], 5, (upto 3 0, 3)⟩,
            fun k => k ≤ told.length, fun k => told.length - k, ⟨0, [], [4], ?_, Nat.zero_le _⟩, ?_⟩
          · ((repeat' (first | exact trivial | exact .inl (DLe.refl _) | exact .inl (DLe.nil _ _) | (refine .inr ⟨rfl, _, ?_, rfl⟩; rfl) | exact rfl | exact .inl rfl | exact .inr ⟨rfl, rfl, rfl, rfl⟩ | exact Nat.zero_le _ | constructor)) <;> first | exact hX0 _ _ _ | exact hX2 _ _ _)
          intro k hk
          replace hk : k ≤ told.length := hk
          have ek : IntKind.i64.wrap ((k : Int) + 1) = ((k + 1 : Nat) : Int) := by rw [IntWalk.i64_in _ (by omega)]; omega
          dsimp only
          conv => whnf
          refine Fork.intro (fun q => ?_) (fun q => ?_)
          · have q' : k < told.length := by have := of_decide_eq_true q; omega
            obtain ⟨bb, hb⟩ : ∃ bb, told[k]? = some bb := ⟨_, List.getElem?_eq_getElem q'⟩
            have hbl := htold bb (List.mem_of_getElem? hb)
            have htk : told.take (k + 1) = told.take k ++ [bb] := by rw [List.take_add_one, hb]; rfl
            conv => whnf
            refine ⟨rfl, ⟨by omega, by omega⟩, fun y hy => ?_⟩
            obtain rfl : bb = y := Option.some.inj (hb.symm.trans hy)
            conv => whnf
            refine CallVC.wk (fun C vs hr => reps_one (l := []) (dle_fpj _ _) hr) (CallVC.pure (hf bb (by omega)) rfl ?_)
            rintro _ rfl
            conv => whnf
            refine ⟨by decide, ?_⟩
            conv => whnf
            refine ⟨Sn2, sentC, (told.take (k + 1)).map (frameS z 1 [x0, x1, x2, x3, x4, x5]), by rw [htk, List.map_append, List.map_append]; rfl, fun _ => rfl, by rw [List.length_map, List.length_take]; omega, by rw [List.length_map, List.length_take]; show min (k + 1) told.length * 32 ≤ _; omega, rfl, ?_⟩
            conv => whnf
            rw [ek]
            refine ⟨k + 1, [(4, 5)], [], ?_, q', by show told.length - (k + 1) < told.length - k; omega⟩
            ((repeat' (first | exact trivial | exact .inl (DLe.refl _) | exact .inl (DLe.nil _ _) | (refine .inr ⟨rfl, _, ?_, rfl⟩; rfl) | exact rfl | exact .inl rfl | exact .inr ⟨rfl, rfl, rfl, rfl⟩ | exact Nat.zero_le _ | constructor)) <;> first | exact hX0 _ _ _ | exact hX2 _ _ _)
          · have q' : k = told.length := by have := of_decide_eq_false q; omega
            subst q'
            rw [List.take_length]
            have hlm : (told.map (frameS z 1 [x0, x1, x2, x3, x4, x5])).length = told.length := List.length_map _
            conv => whnf
            cases hop : decide ((op : Int) = 1) with
            | false =>
              have hans : ansL z 1 ⟨op, [x0, x1, x2, x3, x4, x5], sip, [y0, y1, y2, y3, y4, y5], dip⟩ = [] := by unfold ansL; rw [hop]
              conv => whnf
              refine ⟨[(3, 4)], [], _, _, _, ?_, hK S1 (told.map (frameS z 1 [x0, x1, x2, x3, x4, x5])) T' (by rw [hH0, hL]; dsimp only; rw [hans, List.append_nil]; try rfl)⟩
              ((repeat' (first | exact trivial | exact .inl (DLe.refl _) | exact .inl (DLe.nil _ _) | (refine .inr ⟨rfl, _, ?_, rfl⟩; rfl) | exact rfl | exact .inl rfl | exact .inr ⟨rfl, rfl, rfl, rfl⟩ | exact Nat.zero_le _ | constructor)) <;> first | exact hX0 _ _ _ | exact hX2 _ _ _)
            | true =>
              cases hdp : decide ((dip : Int) = (z 13 : Int)) with
              | false =>
                have hans : ansL z 1 ⟨op, [x0, x1, x2, x3, x4, x5], sip, [y0, y1, y2, y3, y4, y5], dip⟩ = [] := by unfold ansL; rw [hop]; exact (show (match decide ((dip : Int) = (z 13 : Int)) with | false => [] | true => _) = [] by rw [hdp])
                conv => whnf
                rw [hdp]
                conv => whnf
                refine ⟨[(3, 4)], [], _, _, _, ?_, hK S1 (told.map (frameS z 1 [x0, x1, x2, x3, x4, x5])) T' (by rw [hH0, hL]; dsimp only; rw [hans, List.append_nil]; try rfl)⟩
                ((repeat' (first | exact trivial | exact .inl (DLe.refl _) | exact .inl (DLe.nil _ _) | (refine .inr ⟨rfl, _, ?_, rfl⟩; rfl) | exact rfl | exact .inl rfl | exact .inr ⟨rfl, rfl, rfl, rfl⟩ | exact Nat.zero_le _ | constructor)) <;> first | exact hX0 _ _ _ | exact hX2 _ _ _)
              | true =>
                have hdd : dip = z 13 := by have := of_decide_eq_true hdp; omega
                have hans : ansL z 1 ⟨op, [x0, x1, x2, x3, x4, x5], sip, [y0, y1, y2, y3, y4, y5], dip⟩ = [answerS z 1 ⟨op, [x0, x1, x2, x3, x4, x5], sip, [y0, y1, y2, y3, y4, y5], dip⟩] := by unfold ansL; rw [hop]; exact (show (match decide ((dip : Int) = (z 13 : Int)) with | false => [] | true => _) = _ by rw [hdp])
                have hfm := rPutA_fn 2 (z 13) sip (z 6) (z 7) (z 8) (z 9) (z 10) (z 11) x0 x1 x2 x3 x4 x5 (by decide) hz2.2 h2
                have hpe := rPutE_fn x0 x1 x2 x3 x4 x5 (z 6) (z 7) (z 8) (z 9) (z 10) (z 11) 2054 (putA ⟨2, [z 6, z 7, z 8, z 9, z 10, z 11], z 13, [x0, x1, x2, x3, x4, x5], sip⟩) (by decide) (by simp [putA, firstA, b2, b4])
                conv => whnf
                rw [hdp]
                conv => whnf
                refine ⟨(show (0 : Int) ≤ 1 ∧ (1 : Int) < ((2 : Nat) : Int) by decide), ?_⟩
                conv => whnf
                rw [e6, e7, e8, e9, e10, e11]
                (refine CallVC.pure (hfm) rfl ?_; rintro _ rfl; conv => whnf)
                (refine CallVC.pure (hpe) rfl ?_; rintro _ rfl; conv => whnf)
                refine ⟨by decide, ?_⟩
                conv => whnf
                refine ⟨Sn2, sentC, told.map (frameS z 1 [x0, x1, x2, x3, x4, x5]) ++ [answerS z 1 ⟨op, [x0, x1, x2, x3, x4, x5], sip, [y0, y1, y2, y3, y4, y5], dip⟩], by rw [List.map_append]; rfl, fun _ => rfl, by rw [List.length_append]; show (told.map (frameS z 1 [x0, x1, x2, x3, x4, x5])).length + 1 ≤ _; omega, by rw [List.length_append]; show ((told.map (frameS z 1 [x0, x1, x2, x3, x4, x5])).length + 1) * 32 ≤ _; omega, rfl, ?_⟩
                conv => whnf
                refine ⟨[(3, 6)], [], _, _, _, ?_, hK S1 (told.map (frameS z 1 [x0, x1, x2, x3, x4, x5]) ++ [answerS z 1 ⟨op, [x0, x1, x2, x3, x4, x5], sip, [y0, y1, y2, y3, y4, y5], dip⟩]) T' (by rw [hH0, hL]; dsimp only; rw [hans]; try rfl)⟩
                ((repeat' (first | exact trivial | exact .inl (DLe.refl _) | exact .inl (DLe.nil _ _) | (refine .inr ⟨rfl, _, ?_, rfl⟩; rfl) | exact rfl | exact .inl rfl | exact .inr ⟨rfl, rfl, rfl, rfl⟩ | exact Nat.zero_le _ | constructor)) <;> first | exact hX0 _ _ _ | exact hX2 _ _ _)
  | true =>
    obtain rfl : nic = 0 := of_decide_eq_true hn0
    have e0 := hz 0 (by decide)
    have e1 := hz 1 (by decide)
    have e2 := hz 2 (by decide)
    have e3 := hz 3 (by decide)
    have e4 := hz 4 (by decide)
    have e5 := hz 5 (by decide)
    have e12 := hz 12 (by decide)
    obtain ⟨w12, w13, w16⟩ := cfgW_u32 hw
    obtain ⟨w14, w15⟩ := cfgW_i64 hw
    have hho := rHostF_fn (sip : Int) (c 12) (c 14) ⟨by omega, by omega⟩ w12 w14.1
    rw [e12] at hho w12
    have hH0 : heardT c z now T 0 ⟨op, [x0, x1, x2, x3, x4, x5], sip, [y0, y1, y2, y3, y4, y5], dip⟩ = ((learnS c z now T 0 ⟨op, [x0, x1, x2, x3, x4, x5], sip, [y0, y1, y2, y3, y4, y5], dip⟩).1.map (frameS z 0 [x0, x1, x2, x3, x4, x5]) ++ ansL z 0 ⟨op, [x0, x1, x2, x3, x4, x5], sip, [y0, y1, y2, y3, y4, y5], dip⟩, (learnS c z now T 0 ⟨op, [x0, x1, x2, x3, x4, x5], sip, [y0, y1, y2, y3, y4, y5], dip⟩).2) := rfl
    conv => whnf
    refine ⟨(show (0 : Int) ≤ 0 ∧ (0 : Int) < ((2 : Nat) : Int) by decide), ?_⟩
    conv => whnf
    rw [e12]
    refine ⟨(show (0 : Int) ≤ 0 ∧ (0 : Int) < ((2 : Nat) : Int) by decide), ?_⟩
    conv => whnf
    cases hho2 : hostB (sip : Int) (z 12 : Int) (c 14) with
    | false =>
      rw [hho2] at hho
      have hL : learnS c z now T 0 ⟨op, [x0, x1, x2, x3, x4, x5], sip, [y0, y1, y2, y3, y4, y5], dip⟩ = ([], T) := by
        unfold learnS
        exact (show (match decide ((sip : Int) = (z 12 : Int)) with | true => (([], T) : List (List Nat) × List Pl) | false => match hostB (sip : Int) (z 12 : Int) (c 14) with | false => ([], T) | true => _) = ([], T) by rw [hho2]; split <;> rfl)
      (refine CallVC.pure (hho) rfl ?_; rintro _ rfl; conv => whnf)
      cases hop : decide ((op : Int) = 1) with
      | false =>
        have hans : ansL z 0 ⟨op, [x0, x1, x2, x3, x4, x5], sip, [y0, y1, y2, y3, y4, y5], dip⟩ = [] := by unfold ansL; rw [hop]
        conv => whnf
        refine ⟨[(3, 70)], [3], _, _, _, ?_, hK S [] T (by rw [hH0, hL]; dsimp only; rw [hans]; try rfl)⟩
        ((repeat' (first | exact trivial | exact .inl (DLe.refl _) | exact .inl (DLe.nil _ _) | (refine .inr ⟨rfl, _, ?_, rfl⟩; rfl) | exact rfl | exact .inl rfl | exact .inr ⟨rfl, rfl, rfl, rfl⟩ | exact Nat.zero_le _ | constructor)) <;> first | exact hX0 _ _ _ | exact hX2 _ _ _)
      | true =>
        cases hdp : decide ((dip : Int) = (z 12 : Int)) with
        | false =>
          have hans : ansL z 0 ⟨op, [x0, x1, x2, x3, x4, x5], sip, [y0, y1, y2, y3, y4, y5], dip⟩ = [] := by unfold ansL; rw [hop]; exact (show (match decide ((dip : Int) = (z 12 : Int)) with | false => [] | true => _) = [] by rw [hdp])
          conv => whnf
          rw [hdp]
          conv => whnf
          refine ⟨[(3, 70)], [3], _, _, _, ?_, hK S [] T (by rw [hH0, hL]; dsimp only; rw [hans]; try rfl)⟩
          ((repeat' (first | exact trivial | exact .inl (DLe.refl _) | exact .inl (DLe.nil _ _) | (refine .inr ⟨rfl, _, ?_, rfl⟩; rfl) | exact rfl | exact .inl rfl | exact .inr ⟨rfl, rfl, rfl, rfl⟩ | exact Nat.zero_le _ | constructor)) <;> first | exact hX0 _ _ _ | exact hX2 _ _ _)
        | true =>
          have hdd : dip = z 12 := by have := of_decide_eq_true hdp; omega
          have hans : ansL z 0 ⟨op, [x0, x1, x2, x3, x4, x5], sip, [y0, y1, y2, y3, y4, y5], dip⟩ = [answerS z 0 ⟨op, [x0, x1, x2, x3, x4, x5], sip, [y0, y1, y2, y3, y4, y5], dip⟩] := by unfold ansL; rw [hop]; exact (show (match decide ((dip : Int) = (z 12 : Int)) with | false => [] | true => _) = _ by rw [hdp])
          have hfm := rPutA_fn 2 (z 12) sip (z 0) (z 1) (z 2) (z 3) (z 4) (z 5) x0 x1 x2 x3 x4 x5 (by decide) hz2.1 h2
          have hpe := rPutE_fn x0 x1 x2 x3 x4 x5 (z 0) (z 1) (z 2) (z 3) (z 4) (z 5) 2054 (putA ⟨2, [z 0, z 1, z 2, z 3, z 4, z 5], z 12, [x0, x1, x2, x3, x4, x5], sip⟩) (by decide) (by simp [putA, firstA, b2, b4])
          conv => whnf
          rw [hdp]
          conv => whnf
          refine ⟨(show (0 : Int) ≤ 0 ∧ (0 : Int) < ((2 : Nat) : Int) by decide), ?_⟩
          conv => whnf
          rw [e0, e1, e2, e3, e4, e5]
          (refine CallVC.pure (hfm) rfl ?_; rintro _ rfl; conv => whnf)
          (refine CallVC.pure (hpe) rfl ?_; rintro _ rfl; conv => whnf)
          refine ⟨by decide, ?_⟩
          conv => whnf
          refine ⟨Sn2, sentC, ([] : List Sn2) ++ [answerS z 0 ⟨op, [x0, x1, x2, x3, x4, x5], sip, [y0, y1, y2, y3, y4, y5], dip⟩], by rw [List.map_append]; rfl, fun _ => rfl, by rw [List.length_append]; show 0 + 1 ≤ _; omega, by rw [List.length_append]; show (0 + 1) * 32 ≤ _; omega, rfl, ?_⟩
          conv => whnf
          refine ⟨[(3, 5)], [], _, _, _, ?_, hK S (([] : List Sn2) ++ [answerS z 0 ⟨op, [x0, x1, x2, x3, x4, x5], sip, [y0, y1, y2, y3, y4, y5], dip⟩]) T (by rw [hH0, hL]; dsimp only; rw [hans]; try rfl)⟩
          ((repeat' (first | exact trivial | exact .inl (DLe.refl _) | exact .inl (DLe.nil _ _) | (refine .inr ⟨rfl, _, ?_, rfl⟩; rfl) | exact rfl | exact .inl rfl | exact .inr ⟨rfl, rfl, rfl, rfl⟩ | exact Nat.zero_le _ | constructor)) <;> first | exact hX0 _ _ _ | exact hX2 _ _ _)
    | true =>
      rw [hho2] at hho
      (refine CallVC.pure (hho) rfl ?_; rintro _ rfl; conv => whnf)
      cases hs : decide ((sip : Int) = (z 12 : Int)) with
      | true =>
        have hL : learnS c z now T 0 ⟨op, [x0, x1, x2, x3, x4, x5], sip, [y0, y1, y2, y3, y4, y5], dip⟩ = ([], T) := by
          unfold learnS
          exact (show (match decide ((sip : Int) = (z 12 : Int)) with | true => (([], T) : List (List Nat) × List Pl) | false => _) = ([], T) by rw [hs])
        conv => whnf
        cases hop : decide ((op : Int) = 1) with
        | false =>
          have hans : ansL z 0 ⟨op, [x0, x1, x2, x3, x4, x5], sip, [y0, y1, y2, y3, y4, y5], dip⟩ = [] := by unfold ansL; rw [hop]
          conv => whnf
          refine ⟨[(3, 70)], [3], _, _, _, ?_, hK S [] T (by rw [hH0, hL]; dsimp only; rw [hans]; try rfl)⟩
          ((repeat' (first | exact trivial | exact .inl (DLe.refl _) | exact .inl (DLe.nil _ _) | (refine .inr ⟨rfl, _, ?_, rfl⟩; rfl) | exact rfl | exact .inl rfl | exact .inr ⟨rfl, rfl, rfl, rfl⟩ | exact Nat.zero_le _ | constructor)) <;> first | exact hX0 _ _ _ | exact hX2 _ _ _)
        | true =>
          cases hdp : decide ((dip : Int) = (z 12 : Int)) with
          | false =>
            have hans : ansL z 0 ⟨op, [x0, x1, x2, x3, x4, x5], sip, [y0, y1, y2, y3, y4, y5], dip⟩ = [] := by unfold ansL; rw [hop]; exact (show (match decide ((dip : Int) = (z 12 : Int)) with | false => [] | true => _) = [] by rw [hdp])
            conv => whnf
            rw [hdp]
            conv => whnf
            refine ⟨[(3, 70)], [3], _, _, _, ?_, hK S [] T (by rw [hH0, hL]; dsimp only; rw [hans]; try rfl)⟩
            ((repeat' (first | exact trivial | exact .inl (DLe.refl _) | exact .inl (DLe.nil _ _) | (refine .inr ⟨rfl, _, ?_, rfl⟩; rfl) | exact rfl | exact .inl rfl | exact .inr ⟨rfl, rfl, rfl, rfl⟩ | exact Nat.zero_le _ | constructor)) <;> first | exact hX0 _ _ _ | exact hX2 _ _ _)
          | true =>
            have hdd : dip = z 12 := by have := of_decide_eq_true hdp; omega
            have hans : ansL z 0 ⟨op, [x0, x1, x2, x3, x4, x5], sip, [y0, y1, y2, y3, y4, y5], dip⟩ = [answerS z 0 ⟨op, [x0, x1, x2, x3, x4, x5], sip, [y0, y1, y2, y3, y4, y5], dip⟩] := by unfold ansL; rw [hop]; exact (show (match decide ((dip : Int) = (z 12 : Int)) with | false => [] | true => _) = _ by rw [hdp])
            have hfm := rPutA_fn 2 (z 12) sip (z 0) (z 1) (z 2) (z 3) (z 4) (z 5) x0 x1 x2 x3 x4 x5 (by decide) hz2.1 h2
            have hpe := rPutE_fn x0 x1 x2 x3 x4 x5 (z 0) (z 1) (z 2) (z 3) (z 4) (z 5) 2054 (putA ⟨2, [z 0, z 1, z 2, z 3, z 4, z 5], z 12, [x0, x1, x2, x3, x4, x5], sip⟩) (by decide) (by simp [putA, firstA, b2, b4])
            conv => whnf
            rw [hdp]
            conv => whnf
            refine ⟨(show (0 : Int) ≤ 0 ∧ (0 : Int) < ((2 : Nat) : Int) by decide), ?_⟩
            conv => whnf
            rw [e0, e1, e2, e3, e4, e5]
            (refine CallVC.pure (hfm) rfl ?_; rintro _ rfl; conv => whnf)
            (refine CallVC.pure (hpe) rfl ?_; rintro _ rfl; conv => whnf)
            refine ⟨by decide, ?_⟩
            conv => whnf
            refine ⟨Sn2, sentC, ([] : List Sn2) ++ [answerS z 0 ⟨op, [x0, x1, x2, x3, x4, x5], sip, [y0, y1, y2, y3, y4, y5], dip⟩], by rw [List.map_append]; rfl, fun _ => rfl, by rw [List.length_append]; show 0 + 1 ≤ _; omega, by rw [List.length_append]; show (0 + 1) * 32 ≤ _; omega, rfl, ?_⟩
            conv => whnf
            refine ⟨[(3, 5)], [], _, _, _, ?_, hK S (([] : List Sn2) ++ [answerS z 0 ⟨op, [x0, x1, x2, x3, x4, x5], sip, [y0, y1, y2, y3, y4, y5], dip⟩]) T (by rw [hH0, hL]; dsimp only; rw [hans]; try rfl)⟩
            ((repeat' (first | exact trivial | exact .inl (DLe.refl _) | exact .inl (DLe.nil _ _) | (refine .inr ⟨rfl, _, ?_, rfl⟩; rfl) | exact rfl | exact .inl rfl | exact .inr ⟨rfl, rfl, rfl, rfl⟩ | exact Nat.zero_le _ | constructor)) <;> first | exact hX0 _ _ _ | exact hX2 _ _ _)
      | false =>
        have hlearn := rlearn_obs c now T (0, (sip : Int)) (macI [x0, x1, x2, x3, x4, x5]) (decide ((dip : Int) = (z 12 : Int))) ⟨by show (0 : Int) ≤ sip; omega, by show (sip : Int) < 4294967296; omega⟩ hst hT
        have hL : learnS c z now T 0 ⟨op, [x0, x1, x2, x3, x4, x5], sip, [y0, y1, y2, y3, y4, y5], dip⟩ = ((learnT c now T (0, (sip : Int)) (macI [x0, x1, x2, x3, x4, x5]) (decide ((dip : Int) = (z 12 : Int)))).1.1, (learnT c now T (0, (sip : Int)) (macI [x0, x1, x2, x3, x4, x5]) (decide ((dip : Int) = (z 12 : Int)))).2) := by
          unfold learnS
          exact (show (match decide ((sip : Int) = (z 12 : Int)) with | true => (([], T) : List (List Nat) × List Pl) | false => match hostB (sip : Int) (z 12 : Int) (c 14) with | false => ([], T) | true => _) = _ by rw [hs, hho2]; rfl)
        have hwl := learn_waits_le (c := c) (now := now) hst (0, (sip : Int)) (macI [x0, x1, x2, x3, x4, x5]) (decide ((dip : Int) = (z 12 : Int)))
        have htold := learn_told2 (c := c) (now := now) hfr (0, (sip : Int)) (macI [x0, x1, x2, x3, x4, x5]) (decide ((dip : Int) = (z 12 : Int)))
        conv => whnf
        refine CallVC.obs (i := 1) hlearn rfl rfl ?_
        rintro _ _ S1 ⟨rfl, rfl⟩
        clear hlearn
        generalize learnT c now T (0, (sip : Int)) (macI [x0, x1, x2, x3, x4, x5]) (decide ((dip : Int) = (z 12 : Int))) = W at hL hwl htold ⊢
        obtain ⟨⟨told, ok⟩, T'⟩ := W
        dsimp only at hL hwl htold ⊢
        have hf := fun (l : List Nat) (hl : l.length ≤ 900000) => rframe_fn c z hz 0 (.inl rfl) x0 x1 x2 x3 x4 x5 l hl
        conv => whnf
        refine ⟨Nat, fun k => ⟨[(11, intD k), (9, wsR told), (8, u32D (z 12)), (7, .grow 4), (5, .loc 3 0), (1, intD 0), (0, netQ c)], (4, .grow Sn2 70 2 sentC ((told.take k).map (frameS z 0 [x0, x1, x2, x3, x4, x5]))) :: (3, .cells 45 [u16D op, u8D x0, u8D x1, u8D x2, u8D x3, u8D x4, u8D x5, u32D sip, u8D y0, u8D y1, u8D y2, u8D y3, u8D y4, u8D y5, u32D dip]) :: nqH X0 S1 c now T' [(2, X2)], 5, (upto 3 0, 3)⟩,
          fun k => k ≤ told.length, fun k => told.length - k, ⟨0, [], [4], ?_, Nat.zero_le _⟩, ?_⟩
        · ((repeat' (first | exact trivial | exact .inl (DLe.refl _) | exact .inl (DLe.nil _ _) | (refine .inr ⟨rfl, _, ?_, rfl⟩; rfl) | exact rfl | exact .inl rfl | exact .inr ⟨rfl, rfl, rfl, rfl⟩ | exact Nat.zero_le _ | constructor)) <;> first | exact hX0 _ _ _ | exact hX2 _ _ _)
        intro k hk
        replace hk : k ≤ told.length := hk
        have ek : IntKind.i64.wrap ((k : Int) + 1) = ((k + 1 : Nat) : Int) := by rw [IntWalk.i64_in _ (by omega)]; omega
        dsimp only
        conv => whnf
        refine Fork.intro (fun q => ?_) (fun q => ?_)
        · have q' : k < told.length := by have := of_decide_eq_true q; omega
          obtain ⟨bb, hb⟩ : ∃ bb, told[k]? = some bb := ⟨_, List.getElem?_eq_getElem q'⟩
          have hbl := htold bb (List.mem_of_getElem? hb)
          have htk : told.take (k + 1) = told.take k ++ [bb] := by rw [List.take_add_one, hb]; rfl
          conv => whnf
          refine ⟨rfl, ⟨by omega, by omega⟩, fun y hy => ?_⟩
          obtain rfl : bb = y := Option.some.inj (hb.symm.trans hy)
          conv => whnf
          refine CallVC.wk (fun C vs hr => reps_one (l := []) (dle_fpj _ _) hr) (CallVC.pure (hf bb (by omega)) rfl ?_)
          rintro _ rfl
          conv => whnf
          refine ⟨by decide, ?_⟩
          conv => whnf
          refine ⟨Sn2, sentC, (told.take (k + 1)).map (frameS z 0 [x0, x1, x2, x3, x4, x5]), by rw [htk, List.map_append, List.map_append]; rfl, fun _ => rfl, by rw [List.length_map, List.length_take]; omega, by rw [List.length_map, List.length_take]; show min (k + 1) told.length * 32 ≤ _; omega, rfl, ?_⟩
          conv => whnf
          rw [ek]
          refine ⟨k + 1, [(4, 5)], [], ?_, q', by show told.length - (k + 1) < told.length - k; omega⟩
          ((repeat' (first | exact trivial | exact .inl (DLe.refl _) | exact .inl (DLe.nil _ _) | (refine .inr ⟨rfl, _, ?_, rfl⟩; rfl) | exact rfl | exact .inl rfl | exact .inr ⟨rfl, rfl, rfl, rfl⟩ | exact Nat.zero_le _ | constructor)) <;> first | exact hX0 _ _ _ | exact hX2 _ _ _)
        · have q' : k = told.length := by have := of_decide_eq_false q; omega
          subst q'
          rw [List.take_length]
          have hlm : (told.map (frameS z 0 [x0, x1, x2, x3, x4, x5])).length = told.length := List.length_map _
          conv => whnf
          cases hop : decide ((op : Int) = 1) with
          | false =>
            have hans : ansL z 0 ⟨op, [x0, x1, x2, x3, x4, x5], sip, [y0, y1, y2, y3, y4, y5], dip⟩ = [] := by unfold ansL; rw [hop]
            conv => whnf
            refine ⟨[(3, 4)], [], _, _, _, ?_, hK S1 (told.map (frameS z 0 [x0, x1, x2, x3, x4, x5])) T' (by rw [hH0, hL]; dsimp only; rw [hans, List.append_nil]; try rfl)⟩
            ((repeat' (first | exact trivial | exact .inl (DLe.refl _) | exact .inl (DLe.nil _ _) | (refine .inr ⟨rfl, _, ?_, rfl⟩; rfl) | exact rfl | exact .inl rfl | exact .inr ⟨rfl, rfl, rfl, rfl⟩ | exact Nat.zero_le _ | constructor)) <;> first | exact hX0 _ _ _ | exact hX2 _ _ _)
          | true =>
            cases hdp : decide ((dip : Int) = (z 12 : Int)) with
            | false =>
              have hans : ansL z 0 ⟨op, [x0, x1, x2, x3, x4, x5], sip, [y0, y1, y2, y3, y4, y5], dip⟩ = [] := by unfold ansL; rw [hop]; exact (show (match decide ((dip : Int) = (z 12 : Int)) with | false => [] | true => _) = [] by rw [hdp])
              conv => whnf
              rw [hdp]
              conv => whnf
              refine ⟨[(3, 4)], [], _, _, _, ?_, hK S1 (told.map (frameS z 0 [x0, x1, x2, x3, x4, x5])) T' (by rw [hH0, hL]; dsimp only; rw [hans, List.append_nil]; try rfl)⟩
              ((repeat' (first | exact trivial | exact .inl (DLe.refl _) | exact .inl (DLe.nil _ _) | (refine .inr ⟨rfl, _, ?_, rfl⟩; rfl) | exact rfl | exact .inl rfl | exact .inr ⟨rfl, rfl, rfl, rfl⟩ | exact Nat.zero_le _ | constructor)) <;> first | exact hX0 _ _ _ | exact hX2 _ _ _)
            | true =>
              have hdd : dip = z 12 := by have := of_decide_eq_true hdp; omega
              have hans : ansL z 0 ⟨op, [x0, x1, x2, x3, x4, x5], sip, [y0, y1, y2, y3, y4, y5], dip⟩ = [answerS z 0 ⟨op, [x0, x1, x2, x3, x4, x5], sip, [y0, y1, y2, y3, y4, y5], dip⟩] := by unfold ansL; rw [hop]; exact (show (match decide ((dip : Int) = (z 12 : Int)) with | false => [] | true => _) = _ by rw [hdp])
              have hfm := rPutA_fn 2 (z 12) sip (z 0) (z 1) (z 2) (z 3) (z 4) (z 5) x0 x1 x2 x3 x4 x5 (by decide) hz2.1 h2
              have hpe := rPutE_fn x0 x1 x2 x3 x4 x5 (z 0) (z 1) (z 2) (z 3) (z 4) (z 5) 2054 (putA ⟨2, [z 0, z 1, z 2, z 3, z 4, z 5], z 12, [x0, x1, x2, x3, x4, x5], sip⟩) (by decide) (by simp [putA, firstA, b2, b4])
              conv => whnf
              rw [hdp]
              conv => whnf
              refine ⟨(show (0 : Int) ≤ 0 ∧ (0 : Int) < ((2 : Nat) : Int) by decide), ?_⟩
              conv => whnf
              rw [e0, e1, e2, e3, e4, e5]
              (refine CallVC.pure (hfm) rfl ?_; rintro _ rfl; conv => whnf)
              (refine CallVC.pure (hpe) rfl ?_; rintro _ rfl; conv => whnf)
              refine ⟨by decide, ?_⟩
              conv => whnf
              refine ⟨Sn2, sentC, told.map (frameS z 0 [x0, x1, x2, x3, x4, x5]) ++ [answerS z 0 ⟨op, [x0, x1, x2, x3, x4, x5], sip, [y0, y1, y2, y3, y4, y5], dip⟩], by rw [List.map_append]; rfl, fun _ => rfl, by rw [List.length_append]; show (told.map (frameS z 0 [x0, x1, x2, x3, x4, x5])).length + 1 ≤ _; omega, by rw [List.length_append]; show ((told.map (frameS z 0 [x0, x1, x2, x3, x4, x5])).length + 1) * 32 ≤ _; omega, rfl, ?_⟩
              conv => whnf
              refine ⟨[(3, 6)], [], _, _, _, ?_, hK S1 (told.map (frameS z 0 [x0, x1, x2, x3, x4, x5]) ++ [answerS z 0 ⟨op, [x0, x1, x2, x3, x4, x5], sip, [y0, y1, y2, y3, y4, y5], dip⟩]) T' (by rw [hH0, hL]; dsimp only; rw [hans]; try rfl)⟩
              ((repeat' (first | exact trivial | exact .inl (DLe.refl _) | exact .inl (DLe.nil _ _) | (refine .inr ⟨rfl, _, ?_, rfl⟩; rfl) | exact rfl | exact .inl rfl | exact .inr ⟨rfl, rfl, rfl, rfl⟩ | exact Nat.zero_le _ | constructor)) <;> first | exact hX0 _ _ _ | exact hX2 _ _ _)
set_option maxRecDepth 10000 in
set_option maxHeartbeats 4000000 in
theorem rtick_vc (F : List (Nat × D)) (G : List Nat × Nat) (X0 X2 : LO) (S : Nat → Prop) (c : Nat → Int) (z : Nat → Nat) (now : Int) (T : List Pl) (hw : cfgW c) (hz : cfgZ c z) (hz2 : z 12 < 4294967296 ∧ z 13 < 4294967296) (hst : SortT T) (hok : TOk T) (hT : T.length ≤ 1000) (hwt : waitsT T ≤ 1000) (hn : 0 ≤ now ∧ now ≤ 1999999999) (hd : ∀ x ∈ T, 0 ≤ x.due ∧ x.due ≤ 2000010000) (hnic : ∀ x ∈ T, x.nic = 0 ∨ x.nic = 1) {K : D → St → Prop}
    (hF : F.all (fun p => cutOk 6 3 p.2) = true) (hG : Nat.ble G.2 3 = true) (hX0 : ∀ r z n, LOLe r z n X0 X0) (hX2 : ∀ r z n, LOLe r z n X2 X2)
    (hK : ∀ S', K (.tup [.grow 3, intD (tickS c z now T).2]) ⟨F, nqH X0 S' c (now + 1) (tickT c (now + 1) T) [(2, X2), (3, .grow Sn2 70 2 sentC (tickS c z now T).1)], 4, G⟩) : CallVC Tryz.prog false 15 [netQ c] ⟨F, nqH X0 S c now T [(2, X2)], 3, G⟩ K := by
  refine toInQ 3 [] Tryz.func15 rfl (by kernel_rfl) (Nat.le_of_ble_eq_true rfl) (by decide) hG rfl hF ?_
  have htick := rtick_obs c now T (cfgW_ok hw) hok hd hn (by omega) (by omega)
  have hal := asks_len c (now + 1) T
  have hak : ∀ k ∈ asksT c (now + 1) T, (k.1 = 0 ∨ k.1 = 1) ∧ 0 ≤ k.2 ∧ k.2 < 4294967296 := fun k hk => by
    obtain ⟨x, hx, rfl⟩ := asks_keys hk
    exact ⟨hnic x hx, hst.1 x hx⟩
  unfold tickS at hK
  generalize asksT c (now + 1) T = asks at htick hal hak hK
  generalize lostT c (now + 1) T = lost at htick hK
  dsimp only at hK
  conv => whnf
  refine CallVC.obs (i := 1) htick rfl rfl ?_
  rintro _ _ S1 ⟨rfl, rfl⟩
  clear htick
  conv => whnf
  refine ⟨Nat, fun k => ⟨[(7, intD k), (6, intD lost), (5, plsR asks), (4, .grow 3), (0, netQ c)], (3, .grow Sn2 70 2 sentC ((asks.take k).map (askS z))) :: nqH X0 S1 c (now + 1) (tickT c (now + 1) T) [(2, X2)], 4, (upto 3 0, 3)⟩,
    fun k => k ≤ asks.length, fun k => asks.length - k, ⟨0, [], [3], ?_, Nat.zero_le _⟩, ?_⟩
  · ((repeat' (first | exact trivial | exact .inl (DLe.refl _) | exact .inl (DLe.nil _ _) | (refine .inr ⟨rfl, _, ?_, rfl⟩; rfl) | exact rfl | exact .inl rfl | exact .inr ⟨rfl, rfl, rfl, rfl⟩ | exact Nat.zero_le _ | constructor)) <;> first | exact hX0 _ _ _ | exact hX2 _ _ _)
  intro k hk
  replace hk : k ≤ asks.length := hk
  have ek : IntKind.i64.wrap ((k : Int) + 1) = ((k + 1 : Nat) : Int) := by rw [IntWalk.i64_in _ (by omega)]; omega
  dsimp only
  conv => whnf
  refine Fork.intro (fun q => ?_) (fun q => ?_)
  · have q' : k < asks.length := by have := of_decide_eq_true q; omega
    obtain ⟨bb, hb⟩ : ∃ bb, asks[k]? = some bb := ⟨_, List.getElem?_eq_getElem q'⟩
    have hbk := hak bb (List.mem_of_getElem? hb)
    have hf := rask_fn c z hz hz2 bb hbk.1 hbk.2
    have htk : asks.take (k + 1) = asks.take k ++ [bb] := by rw [List.take_add_one, hb]; rfl
    conv => whnf
    refine ⟨rfl, ⟨by omega, by omega⟩, fun y hy => ?_⟩
    obtain rfl : bb = y := Option.some.inj (hb.symm.trans hy)
    conv => whnf
    refine CallVC.wk (fun C vs hr => reps_one (l := []) (dle_fpj _ _) hr) (CallVC.pure hf rfl ?_)
    rintro _ rfl
    conv => whnf
    refine ⟨by decide, ?_⟩
    conv => whnf
    refine ⟨Sn2, sentC, (asks.take (k + 1)).map (askS z), by rw [htk, List.map_append, List.map_append]; rfl, fun _ => rfl, by rw [List.length_map, List.length_take]; omega, by rw [List.length_map, List.length_take]; show min (k + 1) asks.length * 32 ≤ _; omega, rfl, ?_⟩
    conv => whnf
    rw [ek]
    refine ⟨k + 1, [(3, 4)], [], ?_, q', by show asks.length - (k + 1) < asks.length - k; omega⟩
    ((repeat' (first | exact trivial | exact .inl (DLe.refl _) | exact .inl (DLe.nil _ _) | (refine .inr ⟨rfl, _, ?_, rfl⟩; rfl) | exact rfl | exact .inl rfl | exact .inr ⟨rfl, rfl, rfl, rfl⟩ | exact Nat.zero_le _ | constructor)) <;> first | exact hX0 _ _ _ | exact hX2 _ _ _)
  · have q' : k = asks.length := by have := of_decide_eq_false q; omega
    subst q'
    rw [List.take_length]
    conv => whnf
    refine ⟨[], [], _, _, _, ?_, hK S1⟩
    ((repeat' (first | exact trivial | exact .inl (DLe.refl _) | exact .inl (DLe.nil _ _) | (refine .inr ⟨rfl, _, ?_, rfl⟩; rfl) | exact rfl | exact .inl rfl | exact .inr ⟨rfl, rfl, rfl, rfl⟩ | exact Nat.zero_le _ | constructor)) <;> first | exact hX0 _ _ _ | exact hX2 _ _ _)
end Go.Proofs.YtfepckbhnghpeaaGreat.V
