/-
  The document's New, SamePlaces, by value. Conditions: rows not too long.
  A tick goes by: the document's, by value. Conditions: rows not too long, ticks not too great.
  A call that makes an arena out of none, in any region. No condition.
  What is read in a cluster's first object. Condition: the table of types says what the program's says.
  CacheDoes, in plain words: what holds of all that is known, whatever is done; what is found. No condition.
  The law CacheDoes by value, where lives is true. Conditions: numbers of their types. (Printed by gen_dqj.py.)
-/
import Derived.Test.YtjgihniedhmpeaaK13
import Derived.Test.YtjgihniedhmpeaaK2
import Derived.Test.YtjgihniedhmpeaaK1
import Derived.Test.YtjgihniedhmpeaaK12
namespace Go.Proofs.Ytjgihniedhmpeaa.V
open Go.RowKit
attribute [local irreducible] Fn FnN OpVC ArC FnR ArL Ob ObS NewS

theorem rnew_obs (c : Nat → Int) (now : Int) : NewS Try.prog 15 [.agg (cfgC c), intD now] fun A => A = qcA c (clN now 0 1073741824) [] := by
  refine newOfQ [] Try.func15 rfl (by kernel_rfl) (by decide) (Nat.le_of_ble_eq_true rfl) ?_
  have hin : Fn Try.prog 24 [intD now, intD 0, intD 1073741824] fun d => d = intD (clN now 0 1073741824) := inC_fn now 0 1073741824
  conv => whnf
  refine CallVC.pure hin rfl ?_
  rintro _ rfl
  conv => whnf
  refine ⟨[(0, 1), (1, 70)], [1], qcH c (clN now 0 1073741824) [], 2, ?_, by decide, qcF c _ [], ⟨rfl, Nat.le_refl _⟩, rfl⟩
  repeat' (first | exact trivial | exact .inl (DLe.refl _) | exact .inl (DLe.nil _ _) | (refine .inr ⟨rfl, _, ?_, rfl⟩; rfl) | exact rfl | exact .inl rfl | exact .inr ⟨rfl, rfl, rfl, rfl⟩ | exact Nat.zero_le _ | constructor)
set_option maxHeartbeats 4000000 in
theorem samePl_fn (A B : List (Int × Int)) (hA : A.length ≤ 1000000) : Fn Try.prog 19 [plsR A, plsR B] fun d => d = boolD (decide (A = B)) := by
  refine fnOf [] Try.func19 rfl (by kernel_rfl) (Nat.le_of_ble_eq_true rfl) ?_
  conv => whnf
  refine Fork.intro (fun q => ?_) (fun q => ?_)
  · rw [decide_eq_false (show ¬ A = B by rintro rfl; exact ndTc q rfl)]
    conv => whnf
    try rfl
  have q : A.length = B.length := by have := ndFc q; omega
  conv => whnf
  refine ⟨Nat, fun k => ⟨[(5, intD k), (1, plsR B), (0, plsR A)], [], 0, ([], 0)⟩, fun k => k ≤ A.length ∧ A.take k = B.take k, fun k => A.length - k, ⟨0, [], [], ?_, Nat.zero_le _, rfl⟩, ?_⟩
  · repeat' (first | exact trivial | exact .inl (DLe.refl _) | exact .inl (DLe.nil _ _) | (refine .inr ⟨rfl, _, ?_, rfl⟩; rfl) | exact rfl | exact .inl rfl | exact .inr ⟨rfl, rfl, rfl, rfl⟩ | exact Nat.zero_le _ | constructor)
  rintro k ⟨hk, he⟩
  have e0 : IntKind.i64.wrap ((k : Int) + 1) = ((k + 1 : Nat) : Int) := by rw [IntWalk.i64_in _ (by omega)]; omega
  conv => whnf
  refine Fork.intro (fun q1 => ?_) (fun q1 => ?_)
  · have q1 : k < A.length := by have := of_decide_eq_true q1; omega
    obtain ⟨x, hx⟩ : ∃ x, A[k]? = some x := ⟨_, List.getElem?_eq_getElem q1⟩
    obtain ⟨y, hy⟩ : ∃ y, B[k]? = some y := ⟨_, List.getElem?_eq_getElem (by omega)⟩
    conv => whnf
    refine ⟨rfl, ⟨by omega, by omega⟩, fun x' hx' => ?_⟩
    obtain rfl : x = x' := Option.some.inj (hx.symm.trans hx')
    conv => whnf
    refine ⟨rfl, ⟨by omega, by omega⟩, fun y' hy' => ?_⟩
    obtain rfl : y = y' := Option.some.inj (hy.symm.trans hy')
    conv => whnf
    refine ⟨by kernel_rfl, rfl, ?_⟩
    conv => whnf
    rw [show eqD [intD x.1, u32D x.2] [intD y.1, u32D y.2] = decide (x = y) from eq_place x y]
    refine Fork.intro (fun q2 => ?_) (fun q2 => ?_)
    · rw [decide_eq_false (show ¬ A = B by rintro rfl; rw [hx] at hy; injection hy with hy; exact ndTc q2 hy)]
      conv => whnf
      try rfl
    · have q2 : x = y := ndFc q2
      subst q2
      conv => whnf
      rw [e0]
      refine ⟨k + 1, [], [], ?_, ⟨q1, by rw [List.take_add_one, List.take_add_one, hx, hy, he]⟩, by show A.length - (k + 1) < A.length - k; omega⟩
      repeat' (first | exact trivial | exact .inl (DLe.refl _) | exact .inl (DLe.nil _ _) | (refine .inr ⟨rfl, _, ?_, rfl⟩; rfl) | exact rfl | exact .inl rfl | exact .inr ⟨rfl, rfl, rfl, rfl⟩ | exact Nat.zero_le _ | constructor)
  · have q1 : k = A.length := by have := of_decide_eq_false q1; omega
    rw [decide_eq_true (show A = B by rw [← List.take_length (l := A), ← q1, he, q1, q, List.take_length])]
    conv => whnf
    try rfl
end Go.Proofs.Ytjgihniedhmpeaa.V
namespace Go.Proofs.Ytjgihniedhmpeaa.V
open Go.RowKit
attribute [local irreducible] Fn FnN OpVC ArC FnR ArL Ob ObS NewS

theorem clamp_in (n : Int) : clN n 1 4095 = clampW n := by
  unfold clN clampW
  cases h1 : decide (n < 1) with
  | true => have := of_decide_eq_true h1; dsimp only; omega
  | false =>
    have h1 := of_decide_eq_false h1
    cases h2 : decide (4095 < n) with
    | true => have := of_decide_eq_true h2; dsimp only; omega
    | false => have := of_decide_eq_false h2; dsimp only; omega
theorem tick_snoc {c : Nat → Int} {now : Int} {T : List Pl} {i : Nat} {x : Pl} (h : T[i]? = some x) : tickT c now (T.take (i + 1)) = tickT c now (T.take i) ++ (tickX c now x).toList := by
  unfold tickT
  rw [List.take_add_one, h, Option.toList_some, List.filterMap_append]
  congr 1
set_option maxHeartbeats 16000000 in
theorem rtick_obs (c : Nat → Int) (now : Int) (T : List Pl) (hc : cfgOk c) (hok : TOk T) (hd : ∀ x ∈ T, 0 ≤ x.due ∧ x.due ≤ 2000010000) (hn : 0 ≤ now ∧ now ≤ 1999999999) (hT : T.length ≤ 90000) (hw : waitsT T ≤ 90000) : ObS Try.prog 18 (qcA c now T) [] fun d A' => d = .tup [plsR (asksT c (now + 1) T), intD (lostT c (now + 1) T)] ∧ A' = qcA c (now + 1) (tickT c (now + 1) T) := by
  refine obsOfQ [] Try.func18 rfl (by kernel_rfl) (Nat.le_of_ble_eq_true rfl) ?_
  rintro _ nx ⟨rfl, hnx⟩
  refine ⟨[], [], ⟨enumD (.loc 0 0 :: []) 0, qcH c now T, 2, ([0], 1)⟩, ?_, ?_⟩
  · repeat' (first | exact trivial | exact .inl (DLe.refl _) | exact .inl (DLe.nil _ _) | (refine .inr ⟨rfl, _, ?_, rfl⟩; rfl) | exact rfl | exact .inl rfl | exact .inr ⟨rfl, rfl, rfl, rfl⟩ | exact Nat.zero_le _ | constructor)
  have en : IntKind.i64.wrap (now + 1) = now + 1 := IntWalk.i64_in _ (by omega)
  have hin : ∀ n, Fn Try.prog 24 [intD n, intD 1, intD 4095] fun d => d = intD (clampW n) := fun n => by rw [← clamp_in n]; exact inC_fn n 1 4095
  conv => whnf
  rw [en]
  obtain ⟨nw, hnw⟩ : ∃ nw, nw = now + 1 := ⟨_, rfl⟩
  rw [← hnw]
  refine ⟨Nat, fun i => ⟨[(7, intD i), (6, intD (lostT c nw (T.take i))), (5, .grow 3), (4, .grow 2), (0, .loc 0 0)], [(3, .grow Pl 82 12 (oneC c) (tickT c nw (T.take i))), (2, .grow (Int × Int) 39 2 plC (asksT c nw (T.take i))), (0, .cells 66 (cfgC c ++ [intD nw, .grow 1])), (1, .grow Pl 82 12 (oneC c) T)], 4, ([0], 1)⟩, fun i => i ≤ T.length, fun i => T.length - i, ⟨0, [], [2, 3], ?_, Nat.zero_le _⟩, ?_⟩
  · repeat' (first | exact trivial | exact .inl (DLe.refl _) | exact .inl (DLe.nil _ _) | (refine .inr ⟨rfl, _, ?_, rfl⟩; rfl) | exact rfl | exact .inl rfl | exact .inr ⟨rfl, rfl, rfl, rfl⟩ | exact Nat.zero_le _ | constructor)
  rintro i hi
  dsimp only at hi ⊢
  have e0 : IntKind.i64.wrap ((i : Int) + 1) = ((i + 1 : Nat) : Int) := by rw [IntWalk.i64_in _ (by omega)]; omega
  conv => whnf
  refine Fork.intro (fun q => ?_) (fun q => ?_)
  · have q' : i < T.length := by have := of_decide_eq_true q; omega
    obtain ⟨x, hx⟩ : ∃ x, T[i]? = some x := ⟨_, List.getElem?_eq_getElem q'⟩
    have hxm := List.mem_of_getElem? hx
    have hxd := hd x hxm
    have has := asks_snoc (c := c) (now := nw) hx
    have hls := lost_snoc (c := c) (now := nw) hx
    have hts := tick_snoc (c := c) (now := nw) hx
    conv => whnf
    refine ⟨rfl, ⟨Int.natCast_nonneg _, Int.ofNat_lt.2 q'⟩, ?_⟩
    conv => whnf
    refine ⟨rfl, q', fun z hz => ?_⟩
    obtain rfl : x = z := by rw [Int.toNat_natCast, hx] at hz; injection hz
    conv => whnf
    refine CallVC.pure (hin _) rfl ?_
    rintro _ rfl
    conv => whnf
    have hll : lostT c nw (T.take i) ≤ 90000 := Nat.le_trans (lostT_le _ _ _) (Nat.le_trans (waits_take _ _) hw)
    have hll2 : lostT c nw (T.take (i + 1)) ≤ 90000 := Nat.le_trans (lostT_le _ _ _) (Nat.le_trans (waits_take _ _) hw)
    have hxw : x.ws.length ≤ 90000 := Nat.le_trans (waitsT_mem hxm) hw
    have htl : (tickT c nw (T.take (i + 1))).length ≤ 90000 := Nat.le_trans (List.length_filterMap_le _ _) (by rw [List.length_take]; omega)
    have hal : (asksT c nw (T.take (i + 1))).length ≤ 90000 := by unfold asksT; rw [List.length_map]; exact Nat.le_trans (List.length_filter_le _ _) (by rw [List.length_take]; omega)
    have w29 := clampW_in (c 29)
    have w30 := clampW_in (c 30)
    cases hkn : x.known with
    | true =>
      have hox : List.map (oneC c) [x] = [[intD x.nic, u32D x.next, boolD true, u8D (x.mac 0), u8D (x.mac 1), u8D (x.mac 2), u8D (x.mac 3), u8D (x.mac 4), u8D (x.mac 5), intD x.tries, intD (sinceT c x), wsR x.ws]] := by
        show [oneC c x] = _
        unfold oneC
        rw [hkn]
      have hsc : sinceT c x = x.due - clampW (c 29) := by unfold sinceT; rw [hkn]
      have hsub : IntKind.i64.wrap (nw - sinceT c x) = nw - sinceT c x := IntWalk.i64_in _ (by rw [hsc]; omega)
      conv => whnf
      refine CallVC.pure (hin _) rfl ?_
      rintro _ rfl
      conv => whnf
      refine Fork.intro (fun q2 => ?_) (fun q2 => ?_)
      · have q2' := of_decide_eq_true q2
        rw [hsub] at q2'
        have hdq : decide (x.due > nw) = true := decide_eq_true (by rw [hsc] at q2'; omega)
        have hX : tickX c nw x = some x := by unfold tickX; rw [hdq]
        have hA : askX c nw x = false := by unfold askX; rw [hdq]; rfl
        have e1 : asksT c nw (T.take (i + 1)) = asksT c nw (T.take i) := by rw [has, hA]; exact List.append_nil _
        have e2 : lostT c nw (T.take (i + 1)) = lostT c nw (T.take i) := by rw [hls]; unfold lostX; rw [hX]; rfl
        have e3 : tickT c nw (T.take (i + 1)) = tickT c nw (T.take i) ++ [x] := by rw [hts, hX]; rfl
        conv => whnf
        (refine ⟨Nat.le_of_ble_eq_true rfl, ?_⟩; conv => whnf)
        refine ⟨Pl, oneC c, tickT c nw (T.take (i + 1)), by rw [e3, List.map_append, hox], fun _ => rfl, by omega, by show (tickT c nw (T.take (i + 1))).length * 64 ≤ _; omega, rfl, ?_⟩
        conv => whnf
        rw [e0]
        refine ⟨i + 1, [(3, 5)], [], ?_, q', by show T.length - (i + 1) < T.length - i; omega⟩
        dsimp only
        rw [e1, e2]
        repeat' (first | exact trivial | exact .inl (DLe.refl _) | exact .inl (DLe.nil _ _) | (refine .inr ⟨rfl, _, ?_, rfl⟩; rfl) | exact rfl | exact .inl rfl | exact .inr ⟨rfl, rfl, rfl, rfl⟩ | exact Nat.zero_le _ | constructor)
      · have q2' := of_decide_eq_false q2
        rw [hsub] at q2'
        have hdq : decide (x.due > nw) = false := decide_eq_false (by rw [hsc] at q2'; omega)
        have hX : tickX c nw x = none := by unfold tickX; rw [hdq, hkn]; rfl
        have hA : askX c nw x = false := by unfold askX; rw [hdq, hkn]; rfl
        have e1 : asksT c nw (T.take (i + 1)) = asksT c nw (T.take i) := by rw [has, hA]; exact List.append_nil _
        have e2 : lostT c nw (T.take (i + 1)) = lostT c nw (T.take i) + x.ws.length := by rw [hls]; unfold lostX; rw [hX]
        have e3 : tickT c nw (T.take (i + 1)) = tickT c nw (T.take i) := by rw [hts, hX]; exact List.append_nil _
        have ew : IntKind.i64.wrap (((lostT c nw (T.take i) : Nat) : Int) + ((x.ws.length : Nat) : Int)) = ((lostT c nw (T.take (i + 1)) : Nat) : Int) := by rw [e2, IntWalk.i64_in _ (by omega)]; omega
        conv => whnf
        rw [ew, e0]
        refine ⟨i + 1, [], [], ?_, q', by show T.length - (i + 1) < T.length - i; omega⟩
        dsimp only
        rw [e1, e3]
        repeat' (first | exact trivial | exact .inl (DLe.refl _) | exact .inl (DLe.nil _ _) | (refine .inr ⟨rfl, _, ?_, rfl⟩; rfl) | exact rfl | exact .inl rfl | exact .inr ⟨rfl, rfl, rfl, rfl⟩ | exact Nat.zero_le _ | constructor)
    | false =>
      have hox : List.map (oneC c) [x] = [[intD x.nic, u32D x.next, boolD false, u8D (x.mac 0), u8D (x.mac 1), u8D (x.mac 2), u8D (x.mac 3), u8D (x.mac 4), u8D (x.mac 5), intD x.tries, intD (sinceT c x), wsR x.ws]] := by
        show [oneC c x] = _
        unfold oneC
        rw [hkn]
      have hsc : sinceT c x = x.due - clampW (c 30) := by unfold sinceT; rw [hkn]
      have hsub : IntKind.i64.wrap (nw - sinceT c x) = nw - sinceT c x := IntWalk.i64_in _ (by rw [hsc]; omega)
      conv => whnf
      refine Fork.intro (fun q2 => ?_) (fun q2 => ?_)
      · have q2' := of_decide_eq_true q2
        rw [hsub] at q2'
        have hdq : decide (x.due > nw) = true := decide_eq_true (by rw [hsc] at q2'; omega)
        have hX : tickX c nw x = some x := by unfold tickX; rw [hdq]
        have hA : askX c nw x = false := by unfold askX; rw [hdq]; rfl
        have e1 : asksT c nw (T.take (i + 1)) = asksT c nw (T.take i) := by rw [has, hA]; exact List.append_nil _
        have e2 : lostT c nw (T.take (i + 1)) = lostT c nw (T.take i) := by rw [hls]; unfold lostX; rw [hX]; rfl
        have e3 : tickT c nw (T.take (i + 1)) = tickT c nw (T.take i) ++ [x] := by rw [hts, hX]; rfl
        conv => whnf
        (refine ⟨Nat.le_of_ble_eq_true rfl, ?_⟩; conv => whnf)
        refine ⟨Pl, oneC c, tickT c nw (T.take (i + 1)), by rw [e3, List.map_append, hox], fun _ => rfl, by omega, by show (tickT c nw (T.take (i + 1))).length * 64 ≤ _; omega, rfl, ?_⟩
        conv => whnf
        rw [e0]
        refine ⟨i + 1, [(3, 5)], [], ?_, q', by show T.length - (i + 1) < T.length - i; omega⟩
        dsimp only
        rw [e1, e2]
        repeat' (first | exact trivial | exact .inl (DLe.refl _) | exact .inl (DLe.nil _ _) | (refine .inr ⟨rfl, _, ?_, rfl⟩; rfl) | exact rfl | exact .inl rfl | exact .inr ⟨rfl, rfl, rfl, rfl⟩ | exact Nat.zero_le _ | constructor)
      · have q2' := of_decide_eq_false q2
        rw [hsub] at q2'
        have hdq : decide (x.due > nw) = false := decide_eq_false (by rw [hsc] at q2'; omega)
        conv => whnf
        refine Fork.intro (fun q3 => ?_) (fun q3 => ?_)
        · have q3' := of_decide_eq_true q3
          have hX : tickX c nw x = some { x with tries := x.tries + 1, due := nw + clampW (c 30) } := by unfold tickX; rw [hdq, hkn]; dsimp only; rw [decide_eq_true q3']; rfl
          have hA : askX c nw x = true := by unfold askX; rw [hdq, hkn, decide_eq_true q3']; rfl
          have e1 : asksT c nw (T.take (i + 1)) = asksT c nw (T.take i) ++ [x.key] := by rw [has, hA]
          have e2 : lostT c nw (T.take (i + 1)) = lostT c nw (T.take i) := by rw [hls]; unfold lostX; rw [hX]; rfl
          have e3 : tickT c nw (T.take (i + 1)) = tickT c nw (T.take i) ++ [{ x with tries := x.tries + 1, due := nw + clampW (c 30) }] := by rw [hts, hX]; rfl
          have et : IntKind.i64.wrap (x.tries + 1) = x.tries + 1 := by have := (hok x hxm).2.2; have := (hc 31 (by omega) (by omega)).2; exact IntWalk.i64_in _ (by omega)
          have hsn : sinceT c { x with tries := x.tries + 1, due := nw + clampW (c 30) } = nw := by unfold sinceT; dsimp only; rw [hkn]; dsimp only; omega
          conv => whnf
          rw [et]
          (refine ⟨Nat.le_of_ble_eq_true rfl, ?_⟩; conv => whnf)
          have hox2 : List.map (oneC c) [{ x with tries := x.tries + 1, due := nw + clampW (c 30) }] = [[intD x.nic, u32D x.next, boolD false, u8D (x.mac 0), u8D (x.mac 1), u8D (x.mac 2), u8D (x.mac 3), u8D (x.mac 4), u8D (x.mac 5), intD (x.tries + 1), intD nw, wsR x.ws]] := by
            show [oneC c { x with tries := x.tries + 1, due := nw + clampW (c 30) }] = _
            unfold oneC
            rw [hsn]
            dsimp only
            rw [hkn]
          refine ⟨Int × Int, plC, asksT c nw (T.take (i + 1)), by rw [e1, List.map_append]; rfl, fun _ => rfl, by omega, by show (asksT c nw (T.take (i + 1))).length * 16 ≤ _; omega, rfl, ?_⟩
          conv => whnf
          (refine ⟨Nat.le_of_ble_eq_true rfl, ?_⟩; conv => whnf)
          refine ⟨Pl, oneC c, tickT c nw (T.take (i + 1)), by rw [e3, List.map_append, hox2], fun _ => rfl, by omega, by show (tickT c nw (T.take (i + 1))).length * 64 ≤ _; omega, rfl, ?_⟩
          conv => whnf
          rw [e0]
          refine ⟨i + 1, [(2, 5), (3, 6)], [], ?_, q', by show T.length - (i + 1) < T.length - i; omega⟩
          dsimp only
          rw [e2]
          repeat' (first | exact trivial | exact .inl (DLe.refl _) | exact .inl (DLe.nil _ _) | (refine .inr ⟨rfl, _, ?_, rfl⟩; rfl) | exact rfl | exact .inl rfl | exact .inr ⟨rfl, rfl, rfl, rfl⟩ | exact Nat.zero_le _ | constructor)
        · have q3' := of_decide_eq_false q3
          have hX : tickX c nw x = none := by unfold tickX; rw [hdq, hkn]; dsimp only; rw [decide_eq_false q3']; rfl
          have hA : askX c nw x = false := by unfold askX; rw [hdq, hkn, decide_eq_false q3']; rfl
          have e1 : asksT c nw (T.take (i + 1)) = asksT c nw (T.take i) := by rw [has, hA]; exact List.append_nil _
          have e2 : lostT c nw (T.take (i + 1)) = lostT c nw (T.take i) + x.ws.length := by rw [hls]; unfold lostX; rw [hX]
          have e3 : tickT c nw (T.take (i + 1)) = tickT c nw (T.take i) := by rw [hts, hX]; exact List.append_nil _
          have ew : IntKind.i64.wrap (((lostT c nw (T.take i) : Nat) : Int) + ((x.ws.length : Nat) : Int)) = ((lostT c nw (T.take (i + 1)) : Nat) : Int) := by rw [e2, IntWalk.i64_in _ (by omega)]; omega
          conv => whnf
          rw [ew, e0]
          refine ⟨i + 1, [], [], ?_, q', by show T.length - (i + 1) < T.length - i; omega⟩
          dsimp only
          rw [e1, e3]
          repeat' (first | exact trivial | exact .inl (DLe.refl _) | exact .inl (DLe.nil _ _) | (refine .inr ⟨rfl, _, ?_, rfl⟩; rfl) | exact rfl | exact .inl rfl | exact .inr ⟨rfl, rfl, rfl, rfl⟩ | exact Nat.zero_le _ | constructor)
  · have q' : i = T.length := by have := of_decide_eq_false q; omega
    subst q'
    rw [List.take_length]
    conv => whnf
    refine ⟨[(1, 3)], [], .tup [.grow 2, intD (lostT c nw T)], qcH c nw (tickT c nw T), [(2, .grow (Int × Int) 39 2 plC (asksT c nw T))], 3, ?_, rfl, qcF c nw _, ⟨rfl, by decide⟩, by rw [hnw]; rfl, by rw [hnw]⟩
    repeat' (first | exact trivial | exact .inl (DLe.refl _) | exact .inl (DLe.nil _ _) | (refine .inr ⟨rfl, _, ?_, rfl⟩; rfl) | exact rfl | exact .inl rfl | exact .inr ⟨rfl, rfl, rfl, rfl⟩ | exact Nat.zero_le _ | constructor)
end Go.Proofs.Ytjgihniedhmpeaa.V
namespace Go.Proofs.Ytjgihniedhmpeaa.V
open Go.RowKit

section
variable {P : Program} {tt : TT} {s : St} {f : FuncId} {args : List D} {K : D → St → Prop}
theorem CallVC.arN {g : Bool} {i : Nat} {S : Nat → Prop} {M : Ar} {Q : D → Ar → Prop} (hf : ArC P f args M Q) (hid : lget s.H i = some (V.arL S M)) (hcut : args.all (cutOk 6 0) = true) (hg : ∀ k, M k = none)
    (h : ∀ d M' S', Q d M' → K d ⟨s.F, (i, V.arL S' M') :: s.H, s.nx, s.G⟩) : CallVC P g f args s K := by
  refine ⟨hf.1, fun E σ τ a w args' hs hr => ?_⟩
  have hSM := (hs.heap.obj i _ hid).2.1
  have hr' : reps (baseCtx w (ctxOf E s.H s.nx σ τ w).ok) args args' := ⟨hr.1, fun j d u hd hu => cut_still (all_at hcut hd) (hr.2 j d u hd hu)⟩
  refine (hf.2 w _ args' (fun k hk => ⟨hk.2.1, ?_⟩) (fun k x hx => ar_at hs hid hx) hr').mono fun e w' hh => ?_
  · cases hq : M k with
    | none => rfl
    | some x => exact absurd ((owned_ar hid).2 ((hSM k).2 ⟨x, hq⟩)) (hk.2.2 i)
  obtain ⟨d, v, M', hq, rfl, ht, hM', hd⟩ := hh
  have hnone : ∀ k, ¬ S k → M k = none := fun k hk => by
    cases hq : M k with
    | none => rfl
    | some x => exact absurd ((hSM k).2 ⟨x, hq⟩) hk
  have hH : ∀ id, id ≠ i → lget ((i, V.arL (fun k => ∃ x, M' k = some x) M') :: s.H) id = lget s.H id := fun id hne => lget_ne _ _ hne
  have hle : (baseCtx w' (newA (ctxOf E s.H s.nx σ τ w).ok M M' w w')).Le (ctxOf E ((i, V.arL (fun k => ∃ x, M' k = some x) M') :: s.H) s.nx σ τ w') := by
    refine ⟨fun _ _ _ h => h, fun k hk => ?_, fun _ _ _ h => h.elim, fun _ _ h => h.elim, fun _ _ _ h => h.elim⟩
    obtain ⟨h1, h2, h3⟩ := hk
    have hi : ¬ owned ((i, V.arL (fun k => ∃ x, M' k = some x) M') :: s.H) σ τ i k := fun ho => by
      obtain ⟨x, hx⟩ := (owned_ar (lget_same _ _ _)).1 ho
      rw [h2] at hx; cases hx
    rcases h1 with h1 | h1 | h1
    · refine ⟨h1.1, h3, fun id ho => ?_⟩
      by_cases hne : id = i
      · subst hne; exact hi ho
      · exact h1.2.2 id (owned_of (hH id hne) ho)
    · have hSk := (hSM k).2 h1
      refine ⟨.inr ((hs.heap.obj i _ hid).1 k hSk).1, h3, fun id ho => ?_⟩
      by_cases hne : id = i
      · subst hne; exact hi ho
      · exact hne (hs.heap.apart id i k (owned_of (hH id hne) ho) ((owned_ar hid).2 hSk))
    · refine ⟨.inr (.inr (Nat.le_trans hs.heap.kept.size h1)), h3, fun id ho => ?_⟩
      by_cases hne : id = i
      · subst hne; exact hi ho
      · have := owned_lt hs.heap (owned_of (hH id hne) ho); omega
  obtain ⟨r1, r2⟩ := ar_state hs hid ht.os ht.tape ht.output ht.size ht.drawn (H' := (i, V.arL (fun k => ∃ x, M' k = some x) M') :: s.H) (lget_same _ _ _) (fun id hne => .inl (hH id hne)) (fun k hk hS => ht.block k hk (hnone k hS))
    (fun k hk => by
      obtain ⟨x, hx⟩ := hk
      obtain ⟨h1, h2⟩ := hM' k x hx
      refine ⟨It.lt h2, ?_⟩
      rcases h1 with h1 | h1
      · exact .inl ((hSM k).2 h1)
      · exact .inr (.inl h1))
    (fun _ => ⟨fun _ => Iff.rfl, fun k x hx => It.at_le (hM' k x hx).2 (fun _ h => h) ⟨fun _ _ _ h => h, hle.ok, fun _ _ _ h => h.elim, fun _ _ h => h.elim, fun _ _ _ h => h.elim⟩⟩)
  refine ⟨d, ⟨s.F, (i, V.arL (fun k => ∃ x, M' k = some x) M') :: s.H, s.nx, s.G⟩, σ, τ, v, h d M' _ hq, rfl, r1, hd.mono hle, fun hgt => ⟨ht.os, ht.tape, ht.output, ht.size, fun k hk => ?_⟩⟩
  exact ht.block k hk (hg k)
end
end Go.Proofs.Ytjgihniedhmpeaa.V
namespace Go.Proofs.Ytjgihniedhmpeaa.V
open Go.RowKit

section
variable {P : Program} {tt : TT} {s : St}

theorem pv_loadSp (htt : ttOk P tt) {x : Operand} {t : TypeId} {ti : TI} {id off : Nat} {S : Nat → Prop} {A : Fam} {K : D → Prop} (hx : evD s x = .loc id off) (ht : tfind tt t = some ti)
    (hid : lget s.H id = some (.obj (.sep S (sepOf A))))
    (h : ∀ H nx, A H nx → ∃ el l d, lget H 0 = some (.cells el l) ∧ ofCellsD ti (l.drop off) = some d ∧
      ((∃ v, d = .v v ∧ K d) ∨ (∃ j α el' e enc, ∃ L : List α, d = .grow j ∧ lget H j = some (.grow α el' e enc L) ∧ ∀ row : Option (Nat × Nat), (row = none → L.length = 0) → K (.v (slV row L.length))))) : PureVC P s (.load t x) K := by
  refine ⟨fun o' ho' E σ τ a w hs => ?_⟩
  have hxv := evD_rep hs x
  rw [hx] at hxv
  cases hxv with
  | loc hxx =>
  obtain ⟨hin, hxx⟩ := hxx
  have hat := (hs.heap.obj id _ hid).2
  obtain ⟨H, nx, σ2, τ2, hA, hb0, hnx, hS, hhr⟩ : SepR A (ctxOf E s.H s.nx σ τ w).still (σ id) S := hat
  obtain ⟨el, l, d, h1, h2, h3⟩ := h H nx hA
  obtain ⟨_, c, hc, hcs, hcr⟩ := hhr.cells 0 el l h1
  rw [hb0] at hc
  have hc : w.heap[σ id]? = some (.cells c el (0, 0)) := hc
  have hr2 : reps (ctxOf (sepEnv (ctxOf E s.H s.nx σ τ w).still S) H nx σ2 τ2 w) (l.drop off) (c.toList.drop off) := by
    refine ⟨by rw [List.length_drop, List.length_drop, Array.length_toList, hcs], fun j d u hd hu => ?_⟩
    rw [List.getElem?_drop] at hd hu
    rw [Array.getElem?_toList] at hu
    exact hcr _ d u hd hu
  obtain ⟨v', k1, k2⟩ := load_run (P := P) (C := ctxOf (sepEnv (ctxOf E s.H s.nx σ τ w).still S) H nx σ2 τ2 w) (b := σ id) (o := off) (tfind_view htt ht) hr2 h2
  have hrun : ∀ w', (howOf o'.op = .still ∨ Same w w') → (execOp a.eval o').run P w' = .ok (.value v') w' := fun w' hw' => by
    rcases hw' with hw' | hw'
    · rw [ho'] at hw'; cases hw'
    have h3 := k2 w' fun j u hj => by
      refine hw'.1 _ _ _ ?_
      rw [List.getElem?_drop, Array.getElem?_toList] at hj
      show w.cell? ⟨σ id, off + j, none⟩ = some u
      simp only [World.cell?, hc]
      exact hj
    simp [execOp, ho', hxx, h3]
  rcases h3 with ⟨v, rfl, hk⟩ | ⟨j, α, el', e, enc, L, rfl, hj, hk⟩
  · obtain rfl := rep_v k1
    exact ⟨_, v', hk, .v, hrun⟩
  · cases k1 with
    | grow hg =>
      obtain ⟨_, rfl⟩ := hg
      obtain ⟨_, xs, ⟨_, h5⟩, _, _⟩ := hhr.grow j α el' e enc L hj
      rcases h5 with ⟨h5, h6⟩ | ⟨g, cap, cur, h5, _, _, h8, _⟩
      · refine ⟨_, τ2 j, hk none fun _ => h6, ?_, hrun⟩
        rw [h5, slV_none]
        exact .v
      · refine ⟨_, τ2 j, hk (some (g, cap - L.length)) (fun e => by cases e), ?_, hrun⟩
        rw [h5, slV_some, show L.length + (cap - L.length) = cap by omega]
        exact .v
end
end Go.Proofs.Ytjgihniedhmpeaa.V
namespace Go.Proofs.Ytjgihniedhmpeaa.V
open Go.RowKit
attribute [local irreducible] Fn FnN OpVC ArC FnR ArL Ob ObS NewS

def OneOk (now : Int) (x : Pl) : Prop := (0 ≤ x.due ∧ x.due ≤ now + 4095) ∧ ∀ b ∈ x.ws, b.length ≤ 100
def AllOk (now : Int) (T : List Pl) : Prop := ∀ x ∈ T, OneOk now x
theorem want_all {c : Nat → Int} {now : Int} {T : List Pl} (h0 : 0 ≤ now) (h : AllOk now T) (k : Int × Int) (b : List Nat) (hb : b.length ≤ 100) : AllOk now (wantT c now T k b).2 := by
  have hcl := clampW_in (c 30)
  unfold wantT
  cases hq : findT T k with
  | none =>
    dsimp only
    split
    · intro y hy
      rcases insT_mem.1 hy with rfl | hy
      · refine ⟨⟨?_, ?_⟩, fun z hz => ?_⟩
        · show 0 ≤ now + clampW (c 30); omega
        · show now + clampW (c 30) ≤ now + 4095; omega
        · rw [List.mem_singleton.1 hz]; exact hb
      · exact h y hy
    · exact h
  | some x =>
    have hx := (findT_mem hq).1
    dsimp only
    split
    · exact h
    · split
      · exact h
      · intro y hy
        rcases updT_mem hy with rfl | hy
        · refine ⟨(h x hx).1, fun z hz => ?_⟩
          rcases List.mem_append.1 hz with hz | hz
          · exact (h x hx).2 z hz
          · rw [List.mem_singleton.1 hz]; exact hb
        · exact h y hy
theorem learn_all {c : Nat → Int} {now : Int} {T : List Pl} (h0 : 0 ≤ now) (h : AllOk now T) (k : Int × Int) (m : Nat → Int) (add : Bool) : AllOk now (learnT c now T k m add).2 := by
  have hcl := clampW_in (c 29)
  have hone : OneOk now ⟨k.1, k.2, true, m, 0, now + clampW (c 29), []⟩ := ⟨⟨by show 0 ≤ now + clampW (c 29); omega, by show now + clampW (c 29) ≤ now + 4095; omega⟩, fun z hz => by cases hz⟩
  unfold learnT
  cases hq : findT T k with
  | none =>
    dsimp only
    split
    · intro y hy
      rcases insT_mem.1 hy with rfl | hy
      · exact hone
      · exact h y hy
    · exact h
  | some x =>
    dsimp only
    intro y hy
    rcases updT_mem hy with rfl | hy
    · exact hone
    · exact h y hy
theorem learn_told {c : Nat → Int} {now : Int} {T : List Pl} (h : AllOk now T) (k : Int × Int) (m : Nat → Int) (add : Bool) : ∀ b ∈ (learnT c now T k m add).1.1, b.length ≤ 100 := by
  unfold learnT
  cases hq : findT T k with
  | none =>
    dsimp only
    split
    · intro b hb; cases hb
    · intro b hb; cases hb
  | some x =>
    dsimp only
    exact (h x (findT_mem hq).1).2
theorem tick_all {c : Nat → Int} {now : Int} {T : List Pl} (h0 : 0 ≤ now) (h : AllOk now T) : AllOk (now + 1) (tickT c (now + 1) T) := fun y hy => by
  unfold tickT at hy
  obtain ⟨x, hx, e⟩ := List.mem_filterMap.1 hy
  obtain ⟨⟨h1, h2⟩, h3⟩ := h x hx
  have hcl := clampW_in (c 30)
  unfold tickX at e
  split at e
  · injection e with e; rw [← e]; exact ⟨⟨h1, by omega⟩, h3⟩
  · split at e
    · injection e with e
      rw [← e]
      refine ⟨⟨?_, ?_⟩, h3⟩
      · show 0 ≤ now + 1 + clampW (c 30); omega
      · show now + 1 + clampW (c 30) ≤ now + 1 + 4095; omega
    · cases e
theorem learn_waits_le {c : Nat → Int} {now : Int} {T : List Pl} (hs : SortT T) (k : Int × Int) (m : Nat → Int) (add : Bool) : waitsT (learnT c now T k m add).2 ≤ waitsT T ∧ (learnT c now T k m add).1.1.length ≤ waitsT T := by
  have := learn_waits (c := c) (now := now) hs k m add
  omega
theorem clN_min (n : Int) : clN n 0 1073741824 = min (max n 0) 1073741824 := by
  unfold clN
  cases h1 : decide (n < 0) with
  | true => have := of_decide_eq_true h1; dsimp only; omega
  | false =>
    have h1 := of_decide_eq_false h1
    cases h2 : decide (1073741824 < n) with
    | true => have := of_decide_eq_true h2; dsimp only; omega
    | false => have := of_decide_eq_false h2; dsimp only; omega
theorem mac_tup (T : List Pl) (k : Int × Int) : ∃ m b, macT T k = .tup [macD m, boolD b] := by
  unfold macT
  split
  · split
    · exact ⟨_, _, rfl⟩
    · exact ⟨_, _, rfl⟩
  · exact ⟨_, _, rfl⟩
theorem find_mac (d : CDat) (T : List Pl) (h : CStand d T) (k : Int × Int) (hk : keyW k) : ArC Try.prog 20 [ptrD d.cg, .agg (plC k)] (cacheM d) fun r M => r = macT T k ∧ M = cacheM d := by
  refine (find_ar d h.ok k hk).mono fun r M hh => ?_
  obtain ⟨rfl, ⟨h1, rfl⟩ | ⟨p, hp, rfl, rfl⟩⟩ := hh
  · refine ⟨?_, rfl⟩
    unfold macT
    rw [h.none h1]
  · refine ⟨?_, rfl⟩
    unfold macT
    rw [h.find hp]
    rfl
theorem eq_macC (m : Nat → Int) : eqD (macC m) (macC m) = true := by
  show (decide (m 0 = m 0) && (decide (m 1 = m 1) && (decide (m 2 = m 2) && (decide (m 3 = m 3) && (decide (m 4 = m 4) && (decide (m 5 = m 5) && true)))))) = true
  simp
end Go.Proofs.Ytjgihniedhmpeaa.V
namespace Go.Proofs.Ytjgihniedhmpeaa.V
open Go.RowKit
attribute [local irreducible] Fn FnN OpVC ArC FnR ArL Ob ObS NewS

structure DI (c : Nat → Int) (cg n : Nat) (now : Int) (d : CDat) (T : List Pl) : Prop where
  hcg : d.cg = cg
  hcc : d.c = c
  hnow : d.now = now
  nw : 0 ≤ now ∧ now ≤ 1073741824 + n
  st : CStand d T
  ok : TOk T
  len : T.length ≤ n
  wts : waitsT T ≤ n
  all : AllOk now T
set_option maxHeartbeats 16000000 in
theorem cacheDoes_fn (hlv : Fn Try.prog 13 [] fun d => d = boolD true) (c : Nat → Int) (hc : cfgOk c) (now0 : Int) (l : List CDe) (hl : desOk l) : Fn Try.prog 4 [.agg (cfgC c), intD now0, desR l] fun d => d = boolD true := by
  refine fnE_of_wpc (H0 := [(0, arE)]) (nx0 := 1) (pl := [(1, [0, 1, 3, 4, 2, 5, 6, 7]), (27, [0, 1, 2, 3, 4, 5, 6, 7, 8, 9, 11, 12, 13, 14, 15, 10, 16, 17, 18, 19, 21, 20, 22, 23, 24, 25, 26, 28, 29, 30, 31, 27, 32, 33])]) (fun id o h => ?_) ttH ebH mxH Try.func4 rfl (by kernel_rfl) (Nat.le_of_ble_eq_true rfl) ?_
  · by_cases h0 : id = 0
    · subst h0; rw [lget_same] at h; injection h with h; exact ⟨by decide, h.symm⟩
    · rw [lget_ne _ _ h0] at h; cases h
  have hnew := cnew_ar c now0
  have hrnew := rnew_obs c now0
  rw [clN_min] at hrnew
  have hn0 : 0 ≤ min (max now0 0) 1073741824 ∧ min (max now0 0) 1073741824 ≤ 1073741824 := by omega
  generalize min (max now0 0) 1073741824 = now1 at hnew hrnew hn0
  conv => whnf
  refine CallVC.arN (i := 0) hnew rfl rfl (fun _ => rfl) ?_
  rintro _ _ S0 ⟨cg, mg, hok0, rfl, rfl⟩
  have hst0 := stand_new _ _ _ _ hok0
  conv => whnf
  refine CallVC.news hrnew rfl ?_
  rintro _ S1 rfl
  conv => whnf
  (refine pv_isNil (b := false) ttH rfl rfl rfl (.inl ⟨rfl, rfl⟩) ?_; conv => whnf)
  refine ⟨Nat × Int × CDat × List Pl × (Nat → Prop) × (Nat → Prop), fun x => ⟨[(9, intD x.1), (8, .loc 2 0), (7, ptrD cg), (2, desR l)], [(0, arL x.2.2.2.2.1 (cacheM x.2.2.1)), (1, .cells 33 (cfgC c)), (2, .obj (.sep x.2.2.2.2.2 (qcA c x.2.1 x.2.2.2.1)))], 3, ([], 0)⟩,
    fun x => x.1 ≤ 80 ∧ DI c cg x.1 x.2.1 x.2.2.1 x.2.2.2.1, fun x => 80 - x.1, ⟨(0, now1, cdat0 cg mg c now1, [], S0, S1), [], [], ?_, ⟨Nat.zero_le _, ⟨rfl, rfl, rfl, ⟨hn0.1, by show now1 ≤ 1073741824 + ((0 : Nat) : Int); omega⟩, hst0, fun x hx => absurd hx List.not_mem_nil, Nat.le_refl _, Nat.le_refl _, fun x hx => absurd hx List.not_mem_nil⟩⟩⟩, ?_⟩
  · repeat' (first | exact trivial | exact .inl (DLe.refl _) | exact .inl (DLe.nil _ _) | (refine .inr ⟨rfl, _, ?_, rfl⟩; rfl) | exact rfl | exact .inl rfl | exact .inr ⟨rfl, rfl, rfl, rfl⟩ | exact Nat.zero_le _ | constructor)
  clear hst0 hok0 hnew hrnew hn0 mg S0 S1
  rintro ⟨k, now, d, T, S, S'⟩ ⟨hk, hI⟩
  dsimp only at hk hI ⊢
  have e0 : IntKind.i64.wrap ((k : Int) + 1) = ((k + 1 : Nat) : Int) := by rw [IntWalk.i64_in _ (by omega)]; omega
  conv => whnf
  refine Fork.intro (fun q => ?_) (fun q => ?_)
  rotate_left
  · conv => whnf
    (refine CallVC.pure (hlv) rfl ?_; rintro _ rfl; conv => whnf)
  have q' : k < l.length := by have := of_decide_eq_true q; omega
  conv => whnf
  refine Fork.intro (fun q2 => ?_) (fun q2 => ?_)
  rotate_left
  · conv => whnf
    (refine CallVC.pure (hlv) rfl ?_; rintro _ rfl; conv => whnf)
  have q2' : k < 80 := by have := of_decide_eq_true q2; omega
  obtain ⟨x, hx⟩ : ∃ x, l[k]? = some x := ⟨_, List.getElem?_eq_getElem q'⟩
  have hxo := hl x (List.mem_of_getElem? hx)
  conv => whnf
  refine ⟨rfl, ⟨by omega, by omega⟩, fun y hy => ?_⟩
  obtain rfl : x = y := Option.some.inj (hx.symm.trans hy)
  conv => whnf
  have hnow := hI.nw
  have hlk := hI.len
  have hwk := hI.wts
  have hT80 : T.length ≤ 80 := Nat.le_trans hI.len hk
  have hW80 : waitsT T ≤ 80 := Nat.le_trans hI.wts hk
  cases hkd : decide (x.kind = 0) with
  | true =>
    have hwant := want_ar d T hI.st hI.ok x.key hxo (x.b.take 100) (by rw [List.length_take]; omega) (by rw [hI.hnow]; omega) (by omega)
    rw [hI.hcg, hI.hcc, hI.hnow] at hwant
    have hrwant := rwant_obs c now T x.key (x.b.take 100) hxo.1 (by rw [List.length_take]; omega) hI.st.sort (by omega) (by omega)
    have hlen := want_len (c := c) (now := now) T x.key (x.b.take 100)
    have hwl := want_waits_le (c := c) (now := now) hI.st.sort x.key (x.b.take 100)
    have hwok := want_ok (c := c) (now := now) hI.ok x.key (x.b.take 100)
    have hall := want_all (c := c) hnow.1 hI.all x.key (x.b.take 100) (by rw [List.length_take]; omega)
    have hfew := fewC_fn x.b 100 (by decide)
    generalize wantT c now T x.key (x.b.take 100) = g at hwant hrwant hlen hwl hwok hall
    obtain ⟨⟨ask, e⟩, T'⟩ := g
    dsimp only at hwant hrwant hlen hwl hwok hall
    conv => whnf
    (refine CallVC.pure (hfew) rfl ?_; rintro _ rfl; conv => whnf)
    refine CallVC.ar (i := 0) hwant rfl rfl ?_
    rintro _ _ S1 ⟨rfl, d', rfl, f1, f2, f3, f4⟩
    conv => whnf
    refine CallVC.obs (i := 2) hrwant rfl rfl ?_
    rintro _ _ S2 ⟨rfl, rfl⟩
    clear hwant hrwant hfew
    have hI3 : DI c cg (k + 1) now d' T' := ⟨f1, f2, f3, ⟨hnow.1, by omega⟩, f4, hwok, by omega, by omega, hall⟩
    generalize now = now2 at hI3 ⊢
    conv => whnf
    refine Fork.intro (fun q3 => ?_) (fun q3 => ?_)
    · exact absurd q3 (by simp)
    conv => whnf
    refine Fork.intro (fun q4 => ?_) (fun q4 => ?_)
    · exact absurd q4 (by simp)
    conv => whnf
    have hfind := find_mac d' T' hI3.st x.key hxo
    rw [hI3.hcg] at hfind
    have hrm := qc_look (c := c) (now := now2) ⟨_, Try.func21, rfl⟩ (rmac_fn c now2 T' x.key hI3.st.sort (by omega))
    obtain ⟨mm, bb, hmb⟩ := mac_tup T' x.key
    rw [hmb] at hfind hrm
    refine CallVC.ar (i := 0) hfind rfl rfl ?_
    rintro _ _ S3 ⟨rfl, rfl⟩
    conv => whnf
    refine CallVC.look hrm rfl ?_
    rintro _ rfl
    clear hfind hrm hmb
    conv => whnf
    refine ⟨by kernel_rfl, rfl, ?_⟩
    conv => whnf
    rw [show eqD [u8D (mm 0), u8D (mm 1), u8D (mm 2), u8D (mm 3), u8D (mm 4), u8D (mm 5)] [u8D (mm 0), u8D (mm 1), u8D (mm 2), u8D (mm 3), u8D (mm 4), u8D (mm 5)] = true from eq_macC mm]
    conv => whnf
    rw [show (!bb == bb) = false by cases bb <;> rfl]
    conv => whnf
    refine pv_loadSp ttH rfl rfl rfl ?_
    rintro _ nx ⟨rfl, _⟩
    refine ⟨_, _, _, rfl, rfl, .inr ⟨1, Pl, _, 12, oneC c, T', rfl, rfl, fun row hrow => ?_⟩⟩
    conv => whnf
    refine pv_lenS (row := row) ttH hrow rfl rfl ?_
    conv => whnf
    have hh := cache_hdr (d := d')
    have hwts := waits_fn d'
    have hcn := cnow_fn d'
    have hln := len_ar d' hI3.st.ok
    have hrw := qc_look (c := c) (now := now2) ⟨_, Try.func22, rfl⟩ (rwaits_fn c now2 T' (by omega) (by omega))
    rw [hI3.hcg] at hh hln
    rw [hI3.st.waits] at hwts
    rw [hI3.hnow] at hcn
    rw [hI3.st.len] at hln
    refine CallVC.arL (i := 0) hln rfl rfl ?_
    rintro _ rfl
    conv => whnf
    refine Fork.intro (fun q6 => ?_) (fun q6 => ?_)
    · exact absurd q6 (by simp)
    conv => whnf
    refine CallVC.lookA (i := 0) hwts rfl rfl (conv_fp hh) ?_
    rintro _ rfl
    conv => whnf
    refine CallVC.look hrw rfl ?_
    rintro _ rfl
    conv => whnf
    refine Fork.intro (fun q7 => ?_) (fun q7 => ?_)
    · exact absurd q7 (by simp)
    conv => whnf
    refine pv_loadSp ttH rfl rfl rfl ?_
    rintro _ nx ⟨rfl, _⟩
    refine ⟨_, _, _, rfl, rfl, .inl ⟨_, rfl, ?_⟩⟩
    conv => whnf
    refine CallVC.lookA (i := 0) hcn rfl rfl (conv_fp hh) ?_
    rintro _ rfl
    conv => whnf
    refine Fork.intro (fun q8 => ?_) (fun q8 => ?_)
    · exact absurd q8 (by simp)
    conv => whnf
    rw [e0]
    refine ⟨(k + 1, now2, d', T', S3, S2), [], [], ?_, ⟨q2', hI3⟩, by show 80 - (k + 1) < 80 - k; omega⟩
    repeat' (first | exact trivial | exact .inl (DLe.refl _) | exact .inl (DLe.nil _ _) | (refine .inr ⟨rfl, _, ?_, rfl⟩; rfl) | exact rfl | exact .inl rfl | exact .inr ⟨rfl, rfl, rfl, rfl⟩ | exact Nat.zero_le _ | constructor)
  | false =>
    conv => whnf
    cases h1 : decide (x.kind = 1) with
    | true =>
      conv => whnf
      have hlearn := learn_ar d T hI.st x.key hxo x.m (decide (x.kind = 2)) (by rw [hI.hnow]; omega) (by omega)
      rw [hI.hcg, hI.hcc, hI.hnow] at hlearn
      have hrlearn := rlearn_obs c now T x.key x.m (decide (x.kind = 2)) hxo.1 hI.st.sort (by omega)
      have hlen := learn_len (c := c) (now := now) T x.key x.m (decide (x.kind = 2))
      have hwl := learn_waits_le (c := c) (now := now) hI.st.sort x.key x.m (decide (x.kind = 2))
      have hlok := learn_ok (c := c) (now := now) hI.ok x.key x.m (decide (x.kind = 2))
      have hall := learn_all (c := c) hnow.1 hI.all x.key x.m (decide (x.kind = 2))
      have htold := learn_told (c := c) (now := now) hI.all x.key x.m (decide (x.kind = 2))
      generalize learnT c now T x.key x.m (decide (x.kind = 2)) = g at hlearn hrlearn hlen hwl hlok hall htold
      obtain ⟨⟨told, ok⟩, T'⟩ := g
      dsimp only at hlearn hrlearn hlen hwl hlok hall htold
      have hsame := sameW_fn told told (by omega) (fun y hy => Nat.le_trans (htold y hy) (by decide))
      rw [decide_eq_true rfl] at hsame
      conv => whnf
      refine CallVC.ar (i := 0) hlearn rfl rfl ?_
      rintro _ _ S1 ⟨rfl, d', rfl, f1, f2, f3, f4⟩
      conv => whnf
      refine CallVC.obs (i := 2) hrlearn rfl rfl ?_
      rintro _ _ S2 ⟨rfl, rfl⟩
      clear hlearn hrlearn
      have hI3 : DI c cg (k + 1) now d' T' := ⟨f1, f2, f3, ⟨hnow.1, by omega⟩, f4, hlok, by omega, by omega, hall⟩
      generalize now = now2 at hI3 ⊢
      conv => whnf
      (refine CallVC.pure (hsame) rfl ?_; rintro _ rfl; conv => whnf)
      refine Fork.intro (fun q4 => ?_) (fun q4 => ?_)
      · exact absurd q4 (by simp)
      conv => whnf
      have hfind := find_mac d' T' hI3.st x.key hxo
      rw [hI3.hcg] at hfind
      have hrm := qc_look (c := c) (now := now2) ⟨_, Try.func21, rfl⟩ (rmac_fn c now2 T' x.key hI3.st.sort (by omega))
      obtain ⟨mm, bb, hmb⟩ := mac_tup T' x.key
      rw [hmb] at hfind hrm
      refine CallVC.ar (i := 0) hfind rfl rfl ?_
      rintro _ _ S3 ⟨rfl, rfl⟩
      conv => whnf
      refine CallVC.look hrm rfl ?_
      rintro _ rfl
      clear hfind hrm hmb
      conv => whnf
      refine ⟨by kernel_rfl, rfl, ?_⟩
      conv => whnf
      rw [show eqD [u8D (mm 0), u8D (mm 1), u8D (mm 2), u8D (mm 3), u8D (mm 4), u8D (mm 5)] [u8D (mm 0), u8D (mm 1), u8D (mm 2), u8D (mm 3), u8D (mm 4), u8D (mm 5)] = true from eq_macC mm]
      conv => whnf
      rw [show (!bb == bb) = false by cases bb <;> rfl]
      conv => whnf
      refine pv_loadSp ttH rfl rfl rfl ?_
      rintro _ nx ⟨rfl, _⟩
      refine ⟨_, _, _, rfl, rfl, .inr ⟨1, Pl, _, 12, oneC c, T', rfl, rfl, fun row hrow => ?_⟩⟩
      conv => whnf
      refine pv_lenS (row := row) ttH hrow rfl rfl ?_
      conv => whnf
      have hh := cache_hdr (d := d')
      have hwts := waits_fn d'
      have hcn := cnow_fn d'
      have hln := len_ar d' hI3.st.ok
      have hrw := qc_look (c := c) (now := now2) ⟨_, Try.func22, rfl⟩ (rwaits_fn c now2 T' (by omega) (by omega))
      rw [hI3.hcg] at hh hln
      rw [hI3.st.waits] at hwts
      rw [hI3.hnow] at hcn
      rw [hI3.st.len] at hln
      refine CallVC.arL (i := 0) hln rfl rfl ?_
      rintro _ rfl
      conv => whnf
      refine Fork.intro (fun q6 => ?_) (fun q6 => ?_)
      · exact absurd q6 (by simp)
      conv => whnf
      refine CallVC.lookA (i := 0) hwts rfl rfl (conv_fp hh) ?_
      rintro _ rfl
      conv => whnf
      refine CallVC.look hrw rfl ?_
      rintro _ rfl
      conv => whnf
      refine Fork.intro (fun q7 => ?_) (fun q7 => ?_)
      · exact absurd q7 (by simp)
      conv => whnf
      refine pv_loadSp ttH rfl rfl rfl ?_
      rintro _ nx ⟨rfl, _⟩
      refine ⟨_, _, _, rfl, rfl, .inl ⟨_, rfl, ?_⟩⟩
      conv => whnf
      refine CallVC.lookA (i := 0) hcn rfl rfl (conv_fp hh) ?_
      rintro _ rfl
      conv => whnf
      refine Fork.intro (fun q8 => ?_) (fun q8 => ?_)
      · exact absurd q8 (by simp)
      conv => whnf
      rw [e0]
      refine ⟨(k + 1, now2, d', T', S3, S2), [], [], ?_, ⟨q2', hI3⟩, by show 80 - (k + 1) < 80 - k; omega⟩
      repeat' (first | exact trivial | exact .inl (DLe.refl _) | exact .inl (DLe.nil _ _) | (refine .inr ⟨rfl, _, ?_, rfl⟩; rfl) | exact rfl | exact .inl rfl | exact .inr ⟨rfl, rfl, rfl, rfl⟩ | exact Nat.zero_le _ | constructor)
    | false =>
      conv => whnf
      cases h2 : decide (x.kind = 2) with
      | true =>
        conv => whnf
        have hlearn := learn_ar d T hI.st x.key hxo x.m (decide (x.kind = 2)) (by rw [hI.hnow]; omega) (by omega)
        rw [hI.hcg, hI.hcc, hI.hnow] at hlearn
        have hrlearn := rlearn_obs c now T x.key x.m (decide (x.kind = 2)) hxo.1 hI.st.sort (by omega)
        have hlen := learn_len (c := c) (now := now) T x.key x.m (decide (x.kind = 2))
        have hwl := learn_waits_le (c := c) (now := now) hI.st.sort x.key x.m (decide (x.kind = 2))
        have hlok := learn_ok (c := c) (now := now) hI.ok x.key x.m (decide (x.kind = 2))
        have hall := learn_all (c := c) hnow.1 hI.all x.key x.m (decide (x.kind = 2))
        have htold := learn_told (c := c) (now := now) hI.all x.key x.m (decide (x.kind = 2))
        generalize learnT c now T x.key x.m (decide (x.kind = 2)) = g at hlearn hrlearn hlen hwl hlok hall htold
        obtain ⟨⟨told, ok⟩, T'⟩ := g
        dsimp only at hlearn hrlearn hlen hwl hlok hall htold
        have hsame := sameW_fn told told (by omega) (fun y hy => Nat.le_trans (htold y hy) (by decide))
        rw [decide_eq_true rfl] at hsame
        conv => whnf
        refine CallVC.ar (i := 0) hlearn rfl rfl ?_
        rintro _ _ S1 ⟨rfl, d', rfl, f1, f2, f3, f4⟩
        conv => whnf
        refine CallVC.obs (i := 2) hrlearn rfl rfl ?_
        rintro _ _ S2 ⟨rfl, rfl⟩
        clear hlearn hrlearn
        have hI3 : DI c cg (k + 1) now d' T' := ⟨f1, f2, f3, ⟨hnow.1, by omega⟩, f4, hlok, by omega, by omega, hall⟩
        generalize now = now2 at hI3 ⊢
        conv => whnf
        (refine CallVC.pure (hsame) rfl ?_; rintro _ rfl; conv => whnf)
        refine Fork.intro (fun q4 => ?_) (fun q4 => ?_)
        · exact absurd q4 (by simp)
        conv => whnf
        have hfind := find_mac d' T' hI3.st x.key hxo
        rw [hI3.hcg] at hfind
        have hrm := qc_look (c := c) (now := now2) ⟨_, Try.func21, rfl⟩ (rmac_fn c now2 T' x.key hI3.st.sort (by omega))
        obtain ⟨mm, bb, hmb⟩ := mac_tup T' x.key
        rw [hmb] at hfind hrm
        refine CallVC.ar (i := 0) hfind rfl rfl ?_
        rintro _ _ S3 ⟨rfl, rfl⟩
        conv => whnf
        refine CallVC.look hrm rfl ?_
        rintro _ rfl
        clear hfind hrm hmb
        conv => whnf
        refine ⟨by kernel_rfl, rfl, ?_⟩
        conv => whnf
        rw [show eqD [u8D (mm 0), u8D (mm 1), u8D (mm 2), u8D (mm 3), u8D (mm 4), u8D (mm 5)] [u8D (mm 0), u8D (mm 1), u8D (mm 2), u8D (mm 3), u8D (mm 4), u8D (mm 5)] = true from eq_macC mm]
        conv => whnf
        rw [show (!bb == bb) = false by cases bb <;> rfl]
        conv => whnf
        refine pv_loadSp ttH rfl rfl rfl ?_
        rintro _ nx ⟨rfl, _⟩
        refine ⟨_, _, _, rfl, rfl, .inr ⟨1, Pl, _, 12, oneC c, T', rfl, rfl, fun row hrow => ?_⟩⟩
        conv => whnf
        refine pv_lenS (row := row) ttH hrow rfl rfl ?_
        conv => whnf
        have hh := cache_hdr (d := d')
        have hwts := waits_fn d'
        have hcn := cnow_fn d'
        have hln := len_ar d' hI3.st.ok
        have hrw := qc_look (c := c) (now := now2) ⟨_, Try.func22, rfl⟩ (rwaits_fn c now2 T' (by omega) (by omega))
        rw [hI3.hcg] at hh hln
        rw [hI3.st.waits] at hwts
        rw [hI3.hnow] at hcn
        rw [hI3.st.len] at hln
        refine CallVC.arL (i := 0) hln rfl rfl ?_
        rintro _ rfl
        conv => whnf
        refine Fork.intro (fun q6 => ?_) (fun q6 => ?_)
        · exact absurd q6 (by simp)
        conv => whnf
        refine CallVC.lookA (i := 0) hwts rfl rfl (conv_fp hh) ?_
        rintro _ rfl
        conv => whnf
        refine CallVC.look hrw rfl ?_
        rintro _ rfl
        conv => whnf
        refine Fork.intro (fun q7 => ?_) (fun q7 => ?_)
        · exact absurd q7 (by simp)
        conv => whnf
        refine pv_loadSp ttH rfl rfl rfl ?_
        rintro _ nx ⟨rfl, _⟩
        refine ⟨_, _, _, rfl, rfl, .inl ⟨_, rfl, ?_⟩⟩
        conv => whnf
        refine CallVC.lookA (i := 0) hcn rfl rfl (conv_fp hh) ?_
        rintro _ rfl
        conv => whnf
        refine Fork.intro (fun q8 => ?_) (fun q8 => ?_)
        · exact absurd q8 (by simp)
        conv => whnf
        rw [e0]
        refine ⟨(k + 1, now2, d', T', S3, S2), [], [], ?_, ⟨q2', hI3⟩, by show 80 - (k + 1) < 80 - k; omega⟩
        repeat' (first | exact trivial | exact .inl (DLe.refl _) | exact .inl (DLe.nil _ _) | (refine .inr ⟨rfl, _, ?_, rfl⟩; rfl) | exact rfl | exact .inl rfl | exact .inr ⟨rfl, rfl, rfl, rfl⟩ | exact Nat.zero_le _ | constructor)
      | false =>
        conv => whnf
        have htick := tick_ar d T hI.st hI.ok (by rw [hI.hcc]; exact hc) (by omega) (by omega) (by rw [hI.hnow]; omega)
        rw [hI.hcg, hI.hcc, hI.hnow] at htick
        have hrtick := rtick_obs c now T hc hI.ok (fun y hy => by obtain ⟨⟨y1, y2⟩, _⟩ := hI.all y hy; omega) (by omega) (by omega) (by omega)
        have hlen := tick_len c (now + 1) T
        have hwl := waits_tick c (now + 1) T
        have hlok := tick_ok (c := c) (now := now + 1) hI.ok
        have hall := tick_all (c := c) hnow.1 hI.all
        have hal : (asksT c (now + 1) T).length ≤ 80 := by
          unfold asksT
          rw [List.length_map]
          exact Nat.le_trans (List.length_filter_le _ _) hT80
        generalize tickT c (now + 1) T = T' at htick hrtick hlen hwl hlok hall
        generalize asksT c (now + 1) T = asks at htick hrtick hal
        generalize lostT c (now + 1) T = lost at htick hrtick
        have hsame := samePl_fn asks asks (by omega)
        rw [decide_eq_true rfl] at hsame
        conv => whnf
        refine CallVC.ar (i := 0) htick rfl rfl ?_
        rintro _ _ S1 ⟨rfl, d', rfl, f1, f2, f3, f4⟩
        conv => whnf
        refine CallVC.obs (i := 2) hrtick rfl rfl ?_
        rintro _ _ S2 ⟨rfl, rfl⟩
        clear htick hrtick
        have hI3 : DI c cg (k + 1) (now + 1) d' T' := ⟨f1, f2, f3, ⟨by omega, by omega⟩, f4, hlok, by omega, by omega, hall⟩
        clear hall f3 hnow
        generalize now + 1 = now2 at hI3 ⊢
        conv => whnf
        (refine CallVC.pure (hsame) rfl ?_; rintro _ rfl; conv => whnf)
        refine Fork.intro (fun q5 => ?_) (fun q5 => ?_)
        · exact absurd q5 (by simp)
        conv => whnf
        have hfind := find_mac d' T' hI3.st x.key hxo
        rw [hI3.hcg] at hfind
        have hrm := qc_look (c := c) (now := now2) ⟨_, Try.func21, rfl⟩ (rmac_fn c now2 T' x.key hI3.st.sort (by omega))
        obtain ⟨mm, bb, hmb⟩ := mac_tup T' x.key
        rw [hmb] at hfind hrm
        refine CallVC.ar (i := 0) hfind rfl rfl ?_
        rintro _ _ S3 ⟨rfl, rfl⟩
        conv => whnf
        refine CallVC.look hrm rfl ?_
        rintro _ rfl
        clear hfind hrm hmb
        conv => whnf
        refine ⟨by kernel_rfl, rfl, ?_⟩
        conv => whnf
        rw [show eqD [u8D (mm 0), u8D (mm 1), u8D (mm 2), u8D (mm 3), u8D (mm 4), u8D (mm 5)] [u8D (mm 0), u8D (mm 1), u8D (mm 2), u8D (mm 3), u8D (mm 4), u8D (mm 5)] = true from eq_macC mm]
        conv => whnf
        rw [show (!bb == bb) = false by cases bb <;> rfl]
        conv => whnf
        refine pv_loadSp ttH rfl rfl rfl ?_
        rintro _ nx ⟨rfl, _⟩
        refine ⟨_, _, _, rfl, rfl, .inr ⟨1, Pl, _, 12, oneC c, T', rfl, rfl, fun row hrow => ?_⟩⟩
        conv => whnf
        refine pv_lenS (row := row) ttH hrow rfl rfl ?_
        conv => whnf
        have hh := cache_hdr (d := d')
        have hwts := waits_fn d'
        have hcn := cnow_fn d'
        have hln := len_ar d' hI3.st.ok
        have hrw := qc_look (c := c) (now := now2) ⟨_, Try.func22, rfl⟩ (rwaits_fn c now2 T' (by omega) (by omega))
        rw [hI3.hcg] at hh hln
        rw [hI3.st.waits] at hwts
        rw [hI3.hnow] at hcn
        rw [hI3.st.len] at hln
        refine CallVC.arL (i := 0) hln rfl rfl ?_
        rintro _ rfl
        conv => whnf
        refine Fork.intro (fun q6 => ?_) (fun q6 => ?_)
        · exact absurd q6 (by simp)
        conv => whnf
        refine CallVC.lookA (i := 0) hwts rfl rfl (conv_fp hh) ?_
        rintro _ rfl
        conv => whnf
        refine CallVC.look hrw rfl ?_
        rintro _ rfl
        conv => whnf
        refine Fork.intro (fun q7 => ?_) (fun q7 => ?_)
        · exact absurd q7 (by simp)
        conv => whnf
        refine pv_loadSp ttH rfl rfl rfl ?_
        rintro _ nx ⟨rfl, _⟩
        refine ⟨_, _, _, rfl, rfl, .inl ⟨_, rfl, ?_⟩⟩
        conv => whnf
        refine CallVC.lookA (i := 0) hcn rfl rfl (conv_fp hh) ?_
        rintro _ rfl
        conv => whnf
        refine Fork.intro (fun q8 => ?_) (fun q8 => ?_)
        · exact absurd q8 (by simp)
        conv => whnf
        rw [e0]
        refine ⟨(k + 1, now2, d', T', S3, S2), [], [], ?_, ⟨q2', hI3⟩, by show 80 - (k + 1) < 80 - k; omega⟩
        repeat' (first | exact trivial | exact .inl (DLe.refl _) | exact .inl (DLe.nil _ _) | (refine .inr ⟨rfl, _, ?_, rfl⟩; rfl) | exact rfl | exact .inl rfl | exact .inr ⟨rfl, rfl, rfl, rfl⟩ | exact Nat.zero_le _ | constructor)
end Go.Proofs.Ytjgihniedhmpeaa.V
