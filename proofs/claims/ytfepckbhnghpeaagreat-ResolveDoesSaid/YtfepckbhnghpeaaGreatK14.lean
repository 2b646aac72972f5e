/-
  The document's New, SamePlaces, by value. Conditions: rows not too long.
  A tick goes by: the document's, by value. Conditions: rows not too long, ticks not too great.
  A call that makes an arena out of none, in any region. No condition.
  What is read in a cluster's first object. Condition: the table of types says what the program's says.
  CacheDoes, in plain words: what holds of all that is known, whatever is done; what is found. No condition.
-/
import Derived.Test.YtfepckbhnghpeaaGreatK13
import Derived.Test.YtfepckbhnghpeaaGreatK2
import Derived.Test.YtfepckbhnghpeaaGreatK1
import Derived.Test.YtfepckbhnghpeaaGreatCqK
namespace Go.Proofs.YtfepckbhnghpeaaGreat.V
open Go.RowKit
attribute [local irreducible] Fn FnN OpVC ArC FnR ArL Ob ObS NewS

theorem rnew_obs (c : Nat → Int) (now : Int) : NewS Tryz.prog 26 [.agg (cfgC c), intD now] fun A => A = qcA c (clN now 0 1073741824) [] := by
  refine newOfQ [] Tryz.func26 rfl (by kernel_rfl) (by decide) (Nat.le_of_ble_eq_true rfl) ?_
  have hin : Fn Tryz.prog 54 [intD now, intD 0, intD 1073741824] fun d => d = intD (clN now 0 1073741824) := inC_fn now 0 1073741824
  conv => whnf
  refine CallVC.pure hin rfl ?_
  rintro _ rfl
  conv => whnf
  refine ⟨[(0, 1), (1, 70)], [1], qcH c (clN now 0 1073741824) [], 2, ?_, by decide, qcF c _ [], ⟨rfl, Nat.le_refl _⟩, rfl⟩
  repeat' (first | exact trivial | exact .inl (DLe.refl _) | exact .inl (DLe.nil _ _) | (refine .inr ⟨rfl, _, ?_, rfl⟩; rfl) | exact rfl | exact .inl rfl | exact .inr ⟨rfl, rfl, rfl, rfl⟩ | exact Nat.zero_le _ | constructor)
end Go.Proofs.YtfepckbhnghpeaaGreat.V
namespace Go.Proofs.YtfepckbhnghpeaaGreat.V
open Go.RowKit
attribute [local irreducible] Fn FnN OpVC ArC FnR ArL Ob ObS NewS

theorem clamp_in (n : Int) : clN n 1 4095 = clampW n := by
  unfold clN clampW
  cases h1 : decide (n < 1) with
  | true => have := of_decide_eq_true h1; dsimp only; omega
  | false =>
    have h1 := of_decide_eq_false h1
    cases h2 : decide (4095 < n) with
    | true => have := of_decide_eq_true h2; dsimp only; omega
    | false => have := of_decide_eq_false h2; dsimp only; omega
theorem tick_snoc {c : Nat → Int} {now : Int} {T : List Pl} {i : Nat} {x : Pl} (h : T[i]? = some x) : tickT c now (T.take (i + 1)) = tickT c now (T.take i) ++ (tickX c now x).toList := by
  unfold tickT
  rw [List.take_add_one, h, Option.toList_some, List.filterMap_append]
  congr 1
set_option maxHeartbeats 16000000 in
theorem rtick_obs (c : Nat → Int) (now : Int) (T : List Pl) (hc : cfgOk c) (hok : TOk T) (hd : ∀ x ∈ T, 0 ≤ x.due ∧ x.due ≤ 2000010000) (hn : 0 ≤ now ∧ now ≤ 1999999999) (hT : T.length ≤ 90000) (hw : waitsT T ≤ 90000) : ObS Tryz.prog 50 (qcA c now T) [] fun d A' => d = .tup [plsR (asksT c (now + 1) T), intD (lostT c (now + 1) T)] ∧ A' = qcA c (now + 1) (tickT c (now + 1) T) := by
  refine obsOfQ [] Tryz.func50 rfl (by kernel_rfl) (Nat.le_of_ble_eq_true rfl) ?_
  rintro _ nx ⟨rfl, hnx⟩
  refine ⟨[], [], ⟨enumD (.loc 0 0 :: []) 0, qcH c now T, 2, ([0], 1)⟩, ?_, ?_⟩
  · repeat' (first | exact trivial | exact .inl (DLe.refl _) | exact .inl (DLe.nil _ _) | (refine .inr ⟨rfl, _, ?_, rfl⟩; rfl) | exact rfl | exact .inl rfl | exact .inr ⟨rfl, rfl, rfl, rfl⟩ | exact Nat.zero_le _ | constructor)
  have en : IntKind.i64.wrap (now + 1) = now + 1 := IntWalk.i64_in _ (by omega)
  have hin : ∀ n, Fn Tryz.prog 54 [intD n, intD 1, intD 4095] fun d => d = intD (clampW n) := fun n => by rw [← clamp_in n]; exact inC_fn n 1 4095
  conv => whnf
  rw [en]
  obtain ⟨nw, hnw⟩ : ∃ nw, nw = now + 1 := ⟨_, rfl⟩
  rw [← hnw]
  refine ⟨Nat, fun i => ⟨[(7, intD i), (6, intD (lostT c nw (T.take i))), (5, .grow 3), (4, .grow 2), (0, .loc 0 0)], [(3, .grow Pl 110 12 (oneC c) (tickT c nw (T.take i))), (2, .grow (Int × Int) 81 2 plC (asksT c nw (T.take i))), (0, .cells 61 (cfgC c ++ [intD nw, .grow 1])), (1, .grow Pl 110 12 (oneC c) T)], 4, ([0], 1)⟩, fun i => i ≤ T.length, fun i => T.length - i, ⟨0, [], [2, 3], ?_, Nat.zero_le _⟩, ?_⟩
  · repeat' (first | exact trivial | exact .inl (DLe.refl _) | exact .inl (DLe.nil _ _) | (refine .inr ⟨rfl, _, ?_, rfl⟩; rfl) | exact rfl | exact .inl rfl | exact .inr ⟨rfl, rfl, rfl, rfl⟩ | exact Nat.zero_le _ | constructor)
  rintro i hi
  dsimp only at hi ⊢
  have e0 : IntKind.i64.wrap ((i : Int) + 1) = ((i + 1 : Nat) : Int) := by rw [IntWalk.i64_in _ (by omega)]; omega
  conv => whnf
  refine Fork.intro (fun q => ?_) (fun q => ?_)
  · have q' : i < T.length := by have := of_decide_eq_true q; omega
    obtain ⟨x, hx⟩ : ∃ x, T[i]? = some x := ⟨_, List.getElem?_eq_getElem q'⟩
    have hxm := List.mem_of_getElem? hx
    have hxd := hd x hxm
    have has := asks_snoc (c := c) (now := nw) hx
    have hls := lost_snoc (c := c) (now := nw) hx
    have hts := tick_snoc (c := c) (now := nw) hx
    conv => whnf
    refine ⟨rfl, ⟨Int.natCast_nonneg _, Int.ofNat_lt.2 q'⟩, ?_⟩
    conv => whnf
    refine ⟨rfl, q', fun z hz => ?_⟩
    obtain rfl : x = z := by rw [Int.toNat_natCast, hx] at hz; injection hz
    conv => whnf
    refine CallVC.pure (hin _) rfl ?_
    rintro _ rfl
    conv => whnf
    have hll : lostT c nw (T.take i) ≤ 90000 := Nat.le_trans (lostT_le _ _ _) (Nat.le_trans (waits_take _ _) hw)
    have hll2 : lostT c nw (T.take (i + 1)) ≤ 90000 := Nat.le_trans (lostT_le _ _ _) (Nat.le_trans (waits_take _ _) hw)
    have hxw : x.ws.length ≤ 90000 := Nat.le_trans (waitsT_mem hxm) hw
    have htl : (tickT c nw (T.take (i + 1))).length ≤ 90000 := Nat.le_trans (List.length_filterMap_le _ _) (by rw [List.length_take]; omega)
    have hal : (asksT c nw (T.take (i + 1))).length ≤ 90000 := by unfold asksT; rw [List.length_map]; exact Nat.le_trans (List.length_filter_le _ _) (by rw [List.length_take]; omega)
    have w29 := clampW_in (c 29)
    have w30 := clampW_in (c 30)
    cases hkn : x.known with
    | true =>
      have hox : List.map (oneC c) [x] = [[intD x.nic, u32D x.next, boolD true, u8D (x.mac 0), u8D (x.mac 1), u8D (x.mac 2), u8D (x.mac 3), u8D (x.mac 4), u8D (x.mac 5), intD x.tries, intD (sinceT c x), wsR x.ws]] := by
        show [oneC c x] = _
        unfold oneC
        rw [hkn]
      have hsc : sinceT c x = x.due - clampW (c 29) := by unfold sinceT; rw [hkn]
      have hsub : IntKind.i64.wrap (nw - sinceT c x) = nw - sinceT c x := IntWalk.i64_in _ (by rw [hsc]; omega)
      conv => whnf
      refine CallVC.pure (hin _) rfl ?_
      rintro _ rfl
      conv => whnf
      refine Fork.intro (fun q2 => ?_) (fun q2 => ?_)
      · have q2' := of_decide_eq_true q2
        rw [hsub] at q2'
        have hdq : decide (x.due > nw) = true := decide_eq_true (by rw [hsc] at q2'; omega)
        have hX : tickX c nw x = some x := by unfold tickX; rw [hdq]
        have hA : askX c nw x = false := by unfold askX; rw [hdq]; rfl
        have e1 : asksT c nw (T.take (i + 1)) = asksT c nw (T.take i) := by rw [has, hA]; exact List.append_nil _
        have e2 : lostT c nw (T.take (i + 1)) = lostT c nw (T.take i) := by rw [hls]; unfold lostX; rw [hX]; rfl
        have e3 : tickT c nw (T.take (i + 1)) = tickT c nw (T.take i) ++ [x] := by rw [hts, hX]; rfl
        conv => whnf
        (refine ⟨Nat.le_of_ble_eq_true rfl, ?_⟩; conv => whnf)
        refine ⟨Pl, oneC c, tickT c nw (T.take (i + 1)), by rw [e3, List.map_append, hox], fun _ => rfl, by omega, by show (tickT c nw (T.take (i + 1))).length * 64 ≤ _; omega, rfl, ?_⟩
        conv => whnf
        rw [e0]
        refine ⟨i + 1, [(3, 5)], [], ?_, q', by show T.length - (i + 1) < T.length - i; omega⟩
        dsimp only
        rw [e1, e2]
        repeat' (first | exact trivial | exact .inl (DLe.refl _) | exact .inl (DLe.nil _ _) | (refine .inr ⟨rfl, _, ?_, rfl⟩; rfl) | exact rfl | exact .inl rfl | exact .inr ⟨rfl, rfl, rfl, rfl⟩ | exact Nat.zero_le _ | constructor)
      · have q2' := of_decide_eq_false q2
        rw [hsub] at q2'
        have hdq : decide (x.due > nw) = false := decide_eq_false (by rw [hsc] at q2'; omega)
        have hX : tickX c nw x = none := by unfold tickX; rw [hdq, hkn]; rfl
        have hA : askX c nw x = false := by unfold askX; rw [hdq, hkn]; rfl
        have e1 : asksT c nw (T.take (i + 1)) = asksT c nw (T.take i) := by rw [has, hA]; exact List.append_nil _
        have e2 : lostT c nw (T.take (i + 1)) = lostT c nw (T.take i) + x.ws.length := by rw [hls]; unfold lostX; rw [hX]
        have e3 : tickT c nw (T.take (i + 1)) = tickT c nw (T.take i) := by rw [hts, hX]; exact List.append_nil _
        have ew : IntKind.i64.wrap (((lostT c nw (T.take i) : Nat) : Int) + ((x.ws.length : Nat) : Int)) = ((lostT c nw (T.take (i + 1)) : Nat) : Int) := by rw [e2, IntWalk.i64_in _ (by omega)]; omega
        conv => whnf
        rw [ew, e0]
        refine ⟨i + 1, [], [], ?_, q', by show T.length - (i + 1) < T.length - i; omega⟩
        dsimp only
        rw [e1, e3]
        repeat' (first | exact trivial | exact .inl (DLe.refl _) | exact .inl (DLe.nil _ _) | (refine .inr ⟨rfl, _, ?_, rfl⟩; rfl) | exact rfl | exact .inl rfl | exact .inr ⟨rfl, rfl, rfl, rfl⟩ | exact Nat.zero_le _ | constructor)
    | false =>
      have hox : List.map (oneC c) [x] = [[intD x.nic, u32D x.next, boolD false, u8D (x.mac 0), u8D (x.mac 1), u8D (x.mac 2), u8D (x.mac 3), u8D (x.mac 4), u8D (x.mac 5), intD x.tries, intD (sinceT c x), wsR x.ws]] := by
        show [oneC c x] = _
        unfold oneC
        rw [hkn]
      have hsc : sinceT c x = x.due - clampW (c 30) := by unfold sinceT; rw [hkn]
      have hsub : IntKind.i64.wrap (nw - sinceT c x) = nw - sinceT c x := IntWalk.i64_in _ (by rw [hsc]; omega)
      conv => whnf
      refine Fork.intro (fun q2 => ?_) (fun q2 => ?_)
      · have q2' := of_decide_eq_true q2
        rw [hsub] at q2'
        have hdq : decide (x.due > nw) = true := decide_eq_true (by rw [hsc] at q2'; omega)
        have hX : tickX c nw x = some x := by unfold tickX; rw [hdq]
        have hA : askX c nw x = false := by unfold askX; rw [hdq]; rfl
        have e1 : asksT c nw (T.take (i + 1)) = asksT c nw (T.take i) := by rw [has, hA]; exact List.append_nil _
        have e2 : lostT c nw (T.take (i + 1)) = lostT c nw (T.take i) := by rw [hls]; unfold lostX; rw [hX]; rfl
        have e3 : tickT c nw (T.take (i + 1)) = tickT c nw (T.take i) ++ [x] := by rw [hts, hX]; rfl
        conv => whnf
        (refine ⟨Nat.le_of_ble_eq_true rfl, ?_⟩; conv => whnf)
        refine ⟨Pl, oneC c, tickT c nw (T.take (i + 1)), by rw [e3, List.map_append, hox], fun _ => rfl, by omega, by show (tickT c nw (T.take (i + 1))).length * 64 ≤ _; omega, rfl, ?_⟩
        conv => whnf
        rw [e0]
        refine ⟨i + 1, [(3, 5)], [], ?_, q', by show T.length - (i + 1) < T.length - i; omega⟩
        dsimp only
        rw [e1, e2]
        repeat' (first | exact trivial | exact .inl (DLe.refl _) | exact .inl (DLe.nil _ _) | (refine .inr ⟨rfl, _, ?_, rfl⟩; rfl) | exact rfl | exact .inl rfl | exact .inr ⟨rfl, rfl, rfl, rfl⟩ | exact Nat.zero_le _ | constructor)
      · have q2' := of_decide_eq_false q2
        rw [hsub] at q2'
        have hdq : decide (x.due > nw) = false := decide_eq_false (by rw [hsc] at q2'; omega)
        conv => whnf
        refine Fork.intro (fun q3 => ?_) (fun q3 => ?_)
        · have q3' := of_decide_eq_true q3
          have hX : tickX c nw x = some { x with tries := x.tries + 1, due := nw + clampW (c 30) } := by unfold tickX; rw [hdq, hkn]; dsimp only; rw [decide_eq_true q3']; rfl
          have hA : askX c nw x = true := by unfold askX; rw [hdq, hkn, decide_eq_true q3']; rfl
          have e1 : asksT c nw (T.take (i + 1)) = asksT c nw (T.take i) ++ [x.key] := by rw [has, hA]
          have e2 : lostT c nw (T.take (i + 1)) = lostT c nw (T.take i) := by rw [hls]; unfold lostX; rw [hX]; rfl
          have e3 : tickT c nw (T.take (i + 1)) = tickT c nw (T.take i) ++ [{ x with tries := x.tries + 1, due := nw + clampW (c 30) }] := by rw [hts, hX]; rfl
          have et : IntKind.i64.wrap (x.tries + 1) = x.tries + 1 := by have := (hok x hxm).2.2; have := (hc 31 (by omega) (by omega)).2; exact IntWalk.i64_in _ (by omega)
          have hsn : sinceT c { x with tries := x.tries + 1, due := nw + clampW (c 30) } = nw := by unfold sinceT; dsimp only; rw [hkn]; dsimp only; omega
          conv => whnf
          rw [et]
          (refine ⟨Nat.le_of_ble_eq_true rfl, ?_⟩; conv => whnf)
          have hox2 : List.map (oneC c) [{ x with tries := x.tries + 1, due := nw + clampW (c 30) }] = [[intD x.nic, u32D x.next, boolD false, u8D (x.mac 0), u8D (x.mac 1), u8D (x.mac 2), u8D (x.mac 3), u8D (x.mac 4), u8D (x.mac 5), intD (x.tries + 1), intD nw, wsR x.ws]] := by
            show [oneC c { x with tries := x.tries + 1, due := nw + clampW (c 30) }] = _
            unfold oneC
            rw [hsn]
            dsimp only
            rw [hkn]
          refine ⟨Int × Int, plC, asksT c nw (T.take (i + 1)), by rw [e1, List.map_append]; rfl, fun _ => rfl, by omega, by show (asksT c nw (T.take (i + 1))).length * 16 ≤ _; omega, rfl, ?_⟩
          conv => whnf
          (refine ⟨Nat.le_of_ble_eq_true rfl, ?_⟩; conv => whnf)
          refine ⟨Pl, oneC c, tickT c nw (T.take (i + 1)), by rw [e3, List.map_append, hox2], fun _ => rfl, by omega, by show (tickT c nw (T.take (i + 1))).length * 64 ≤ _; omega, rfl, ?_⟩
          conv => whnf
          rw [e0]
          refine ⟨i + 1, [(2, 5), (3, 6)], [], ?_, q', by show T.length - (i + 1) < T.length - i; omega⟩
          dsimp only
          rw [e2]
          repeat' (first | exact trivial | exact .inl (DLe.refl _) | exact .inl (DLe.nil _ _) | (refine .inr ⟨rfl, _, ?_, rfl⟩; rfl) | exact rfl | exact .inl rfl | exact .inr ⟨rfl, rfl, rfl, rfl⟩ | exact Nat.zero_le _ | constructor)
        · have q3' := of_decide_eq_false q3
          have hX : tickX c nw x = none := by unfold tickX; rw [hdq, hkn]; dsimp only; rw [decide_eq_false q3']; rfl
          have hA : askX c nw x = false := by unfold askX; rw [hdq, hkn, decide_eq_false q3']; rfl
          have e1 : asksT c nw (T.take (i + 1)) = asksT c nw (T.take i) := by rw [has, hA]; exact List.append_nil _
          have e2 : lostT c nw (T.take (i + 1)) = lostT c nw (T.take i) + x.ws.length := by rw [hls]; unfold lostX; rw [hX]
          have e3 : tickT c nw (T.take (i + 1)) = tickT c nw (T.take i) := by rw [hts, hX]; exact List.append_nil _
          have ew : IntKind.i64.wrap (((lostT c nw (T.take i) : Nat) : Int) + ((x.ws.length : Nat) : Int)) = ((lostT c nw (T.take (i + 1)) : Nat) : Int) := by rw [e2, IntWalk.i64_in _ (by omega)]; omega
          conv => whnf
          rw [ew, e0]
          refine ⟨i + 1, [], [], ?_, q', by show T.length - (i + 1) < T.length - i; omega⟩
          dsimp only
          rw [e1, e3]
          repeat' (first | exact trivial | exact .inl (DLe.refl _) | exact .inl (DLe.nil _ _) | (refine .inr ⟨rfl, _, ?_, rfl⟩; rfl) | exact rfl | exact .inl rfl | exact .inr ⟨rfl, rfl, rfl, rfl⟩ | exact Nat.zero_le _ | constructor)
  · have q' : i = T.length := by have := of_decide_eq_false q; omega
    subst q'
    rw [List.take_length]
    conv => whnf
    refine ⟨[(1, 3)], [], .tup [.grow 2, intD (lostT c nw T)], qcH c nw (tickT c nw T), [(2, .grow (Int × Int) 81 2 plC (asksT c nw T))], 3, ?_, rfl, qcF c nw _, ⟨rfl, by decide⟩, by rw [hnw]; rfl, by rw [hnw]⟩
    repeat' (first | exact trivial | exact .inl (DLe.refl _) | exact .inl (DLe.nil _ _) | (refine .inr ⟨rfl, _, ?_, rfl⟩; rfl) | exact rfl | exact .inl rfl | exact .inr ⟨rfl, rfl, rfl, rfl⟩ | exact Nat.zero_le _ | constructor)
end Go.Proofs.YtfepckbhnghpeaaGreat.V
namespace Go.Proofs.YtfepckbhnghpeaaGreat.V
open Go.RowKit

section
variable {P : Program} {tt : TT} {s : St} {f : FuncId} {args : List D} {K : D → St → Prop}
theorem CallVC.arN {g : Bool} {i : Nat} {S : Nat → Prop} {M : Ar} {Q : D → Ar → Prop} (hf : ArC P f args M Q) (hid : lget s.H i = some (V.arL S M)) (hcut : args.all (cutOk 6 0) = true) (hg : ∀ k, M k = none)
    (h : ∀ d M' S', Q d M' → K d ⟨s.F, (i, V.arL S' M') :: s.H, s.nx, s.G⟩) : CallVC P g f args s K := by
  refine ⟨hf.1, fun E σ τ a w args' hs hr => ?_⟩
  have hSM := (hs.heap.obj i _ hid).2.1
  have hr' : reps (baseCtx w (ctxOf E s.H s.nx σ τ w).ok) args args' := ⟨hr.1, fun j d u hd hu => cut_still (all_at hcut hd) (hr.2 j d u hd hu)⟩
  refine (hf.2 w _ args' (fun k hk => ⟨hk.2.1, ?_⟩) (fun k x hx => ar_at hs hid hx) hr').mono fun e w' hh => ?_
  · cases hq : M k with
    | none => rfl
    | some x => exact absurd ((owned_ar hid).2 ((hSM k).2 ⟨x, hq⟩)) (hk.2.2 i)
  obtain ⟨d, v, M', hq, rfl, ht, hM', hd⟩ := hh
  have hnone : ∀ k, ¬ S k → M k = none := fun k hk => by
    cases hq : M k with
    | none => rfl
    | some x => exact absurd ((hSM k).2 ⟨x, hq⟩) hk
  have hH : ∀ id, id ≠ i → lget ((i, V.arL (fun k => ∃ x, M' k = some x) M') :: s.H) id = lget s.H id := fun id hne => lget_ne _ _ hne
  have hle : (baseCtx w' (newA (ctxOf E s.H s.nx σ τ w).ok M M' w w')).Le (ctxOf E ((i, V.arL (fun k => ∃ x, M' k = some x) M') :: s.H) s.nx σ τ w') := by
    refine ⟨fun _ _ _ h => h, fun k hk => ?_, fun _ _ _ h => h.elim, fun _ _ h => h.elim, fun _ _ _ h => h.elim⟩
    obtain ⟨h1, h2, h3⟩ := hk
    have hi : ¬ owned ((i, V.arL (fun k => ∃ x, M' k = some x) M') :: s.H) σ τ i k := fun ho => by
      obtain ⟨x, hx⟩ := (owned_ar (lget_same _ _ _)).1 ho
      rw [h2] at hx; cases hx
    rcases h1 with h1 | h1 | h1
    · refine ⟨h1.1, h3, fun id ho => ?_⟩
      by_cases hne : id = i
      · subst hne; exact hi ho
      · exact h1.2.2 id (owned_of (hH id hne) ho)
    · have hSk := (hSM k).2 h1
      refine ⟨.inr ((hs.heap.obj i _ hid).1 k hSk).1, h3, fun id ho => ?_⟩
      by_cases hne : id = i
      · subst hne; exact hi ho
      · exact hne (hs.heap.apart id i k (owned_of (hH id hne) ho) ((owned_ar hid).2 hSk))
    · refine ⟨.inr (.inr (Nat.le_trans hs.heap.kept.size h1)), h3, fun id ho => ?_⟩
      by_cases hne : id = i
      · subst hne; exact hi ho
      · have := owned_lt hs.heap (owned_of (hH id hne) ho); omega
  obtain ⟨r1, r2⟩ := ar_state hs hid ht.os ht.tape ht.output ht.size ht.drawn (H' := (i, V.arL (fun k => ∃ x, M' k = some x) M') :: s.H) (lget_same _ _ _) (fun id hne => .inl (hH id hne)) (fun k hk hS => ht.block k hk (hnone k hS))
    (fun k hk => by
      obtain ⟨x, hx⟩ := hk
      obtain ⟨h1, h2⟩ := hM' k x hx
      refine ⟨It.lt h2, ?_⟩
      rcases h1 with h1 | h1
      · exact .inl ((hSM k).2 h1)
      · exact .inr (.inl h1))
    (fun _ => ⟨fun _ => Iff.rfl, fun k x hx => It.at_le (hM' k x hx).2 (fun _ h => h) ⟨fun _ _ _ h => h, hle.ok, fun _ _ _ h => h.elim, fun _ _ h => h.elim, fun _ _ _ h => h.elim⟩⟩)
  refine ⟨d, ⟨s.F, (i, V.arL (fun k => ∃ x, M' k = some x) M') :: s.H, s.nx, s.G⟩, σ, τ, v, h d M' _ hq, rfl, r1, hd.mono hle, fun hgt => ⟨ht.os, ht.tape, ht.output, ht.size, fun k hk => ?_⟩⟩
  exact ht.block k hk (hg k)
end
end Go.Proofs.YtfepckbhnghpeaaGreat.V
namespace Go.Proofs.YtfepckbhnghpeaaGreat.V
open Go.RowKit

section
variable {P : Program} {tt : TT} {s : St}

theorem pv_loadSp (htt : ttOk P tt) {x : Operand} {t : TypeId} {ti : TI} {id off : Nat} {S : Nat → Prop} {A : Fam} {K : D → Prop} (hx : evD s x = .loc id off) (ht : tfind tt t = some ti)
    (hid : lget s.H id = some (.obj (.sep S (sepOf A))))
    (h : ∀ H nx, A H nx → ∃ el l d, lget H 0 = some (.cells el l) ∧ ofCellsD ti (l.drop off) = some d ∧
      ((∃ v, d = .v v ∧ K d) ∨ (∃ j α el' e enc, ∃ L : List α, d = .grow j ∧ lget H j = some (.grow α el' e enc L) ∧ ∀ row : Option (Nat × Nat), (row = none → L.length = 0) → K (.v (slV row L.length))))) : PureVC P s (.load t x) K := by
  refine ⟨fun o' ho' E σ τ a w hs => ?_⟩
  have hxv := evD_rep hs x
  rw [hx] at hxv
  cases hxv with
  | loc hxx =>
  obtain ⟨hin, hxx⟩ := hxx
  have hat := (hs.heap.obj id _ hid).2
  obtain ⟨H, nx, σ2, τ2, hA, hb0, hnx, hS, hhr⟩ : SepR A (ctxOf E s.H s.nx σ τ w).still (σ id) S := hat
  obtain ⟨el, l, d, h1, h2, h3⟩ := h H nx hA
  obtain ⟨_, c, hc, hcs, hcr⟩ := hhr.cells 0 el l h1
  rw [hb0] at hc
  have hc : w.heap[σ id]? = some (.cells c el (0, 0)) := hc
  have hr2 : reps (ctxOf (sepEnv (ctxOf E s.H s.nx σ τ w).still S) H nx σ2 τ2 w) (l.drop off) (c.toList.drop off) := by
    refine ⟨by rw [List.length_drop, List.length_drop, Array.length_toList, hcs], fun j d u hd hu => ?_⟩
    rw [List.getElem?_drop] at hd hu
    rw [Array.getElem?_toList] at hu
    exact hcr _ d u hd hu
  obtain ⟨v', k1, k2⟩ := load_run (P := P) (C := ctxOf (sepEnv (ctxOf E s.H s.nx σ τ w).still S) H nx σ2 τ2 w) (b := σ id) (o := off) (tfind_view htt ht) hr2 h2
  have hrun : ∀ w', (howOf o'.op = .still ∨ Same w w') → (execOp a.eval o').run P w' = .ok (.value v') w' := fun w' hw' => by
    rcases hw' with hw' | hw'
    · rw [ho'] at hw'; cases hw'
    have h3 := k2 w' fun j u hj => by
      refine hw'.1 _ _ _ ?_
      rw [List.getElem?_drop, Array.getElem?_toList] at hj
      show w.cell? ⟨σ id, off + j, none⟩ = some u
      simp only [World.cell?, hc]
      exact hj
    simp [execOp, ho', hxx, h3]
  rcases h3 with ⟨v, rfl, hk⟩ | ⟨j, α, el', e, enc, L, rfl, hj, hk⟩
  · obtain rfl := rep_v k1
    exact ⟨_, v', hk, .v, hrun⟩
  · cases k1 with
    | grow hg =>
      obtain ⟨_, rfl⟩ := hg
      obtain ⟨_, xs, ⟨_, h5⟩, _, _⟩ := hhr.grow j α el' e enc L hj
      rcases h5 with ⟨h5, h6⟩ | ⟨g, cap, cur, h5, _, _, h8, _⟩
      · refine ⟨_, τ2 j, hk none fun _ => h6, ?_, hrun⟩
        rw [h5, slV_none]
        exact .v
      · refine ⟨_, τ2 j, hk (some (g, cap - L.length)) (fun e => by cases e), ?_, hrun⟩
        rw [h5, slV_some, show L.length + (cap - L.length) = cap by omega]
        exact .v
end
end Go.Proofs.YtfepckbhnghpeaaGreat.V
namespace Go.Proofs.YtfepckbhnghpeaaGreat.V
open Go.RowKit
attribute [local irreducible] Fn FnN OpVC ArC FnR ArL Ob ObS NewS

theorem learn_waits_le {c : Nat → Int} {now : Int} {T : List Pl} (hs : SortT T) (k : Int × Int) (m : Nat → Int) (add : Bool) : waitsT (learnT c now T k m add).2 ≤ waitsT T ∧ (learnT c now T k m add).1.1.length ≤ waitsT T := by
  have := learn_waits (c := c) (now := now) hs k m add
  omega
theorem clN_min (n : Int) : clN n 0 1073741824 = min (max n 0) 1073741824 := by
  unfold clN
  cases h1 : decide (n < 0) with
  | true => have := of_decide_eq_true h1; dsimp only; omega
  | false =>
    have h1 := of_decide_eq_false h1
    cases h2 : decide (1073741824 < n) with
    | true => have := of_decide_eq_true h2; dsimp only; omega
    | false => have := of_decide_eq_false h2; dsimp only; omega
end Go.Proofs.YtfepckbhnghpeaaGreat.V
