/-
  The document's Read by value. Conditions: a text of bytes, not too long. (printed by gen_jm.py)
-/
import Derived.Test.YtooaeccmkgockaaGreatDoorJkK
namespace Go.Proofs.YtooaeccmkgockaaGreatDoor.V
open Go.RowKit
attribute [local irreducible] Fn FnN OpVC

theorem parseR_fn (l : List Nat) (hl : Byt l) (hlen : l.length ≤ 100000) : Fn Tryz.prog 33 [strD l] fun d => ∃ e, d = .tup [.v (.int .u32 (adr l)), intD e] :=
  (rparse_fn l hl hlen).mono fun d h => by
    subst h
    rw [← parse_eq]
    unfold adr addrD
    cases pParse l with
    | none => exact ⟨3, rfl⟩
    | some v => exact ⟨0, rfl⟩
theorem rw_byt {s : List Nat} (hs : Byt s) (i : Nat) : Byt (rw_ s i) := by
  unfold rw_
  rw [List.getD_eq_getElem?_getD]
  cases hq : (splB blC s)[i]? with
  | none => exact .nil
  | some x => exact splB_byt hs (List.mem_of_getElem? hq)
theorem rw_len (s : List Nat) (i : Nat) : (rw_ s i).length ≤ s.length := by
  unfold rw_
  rw [List.getD_eq_getElem?_getD]
  cases hq : (splB blC s)[i]? with
  | none => simp
  | some x => exact (splB_mem _ s x (List.mem_of_getElem? hq)).1
theorem rw_at {s : List Nat} {i : Nat} {x : List Nat} (hx : (splB blC s)[i]? = some x) : x = rw_ s i := by
  unfold rw_
  rw [List.getD_eq_getElem?_getD, hx]; rfl
theorem u16_rem (l : List Nat) : IntKind.u16.wrap ((valR l).tmod 65536) = valR l % 65536 := by
  have := valR_le l
  rw [u16_wrap, Int.tmod_eq_emod_of_nonneg (by omega)]; omega
theorem rRead_of {s : List Nat} {o : Ord} (h : rOrd s = o) : rRead s = match mayOB o && decide (lineO o = s) with
    | true => (o, 0)
    | false => (zeroO, 3) := by
  unfold rRead; rw [h]; rfl
theorem stats_words {s : List Nat} (h : s = wStats) : (splB blC s).length = 1 := by subst h; rfl

set_option maxHeartbeats 8000000 in
theorem rread_fn (s : List Nat) (hs : Byt s) (hl : s.length ≤ 100000) : Fn Tryz.prog 8 [strD s] fun d => d = .tup [.agg (ordD (rRead s).1), intD (rRead s).2] := by
  refine fnOf [(8, [1001, 0, 1, 2, 4, 5, 6, 7, 9, 10, 11, 12, 13, 14, 16]), (11, [0, 1, 2, 4, 5, 6, 8, 9, 10, 11, 3, 7, 12, 13, 14]), (17, [0, 1, 2, 4, 5, 6, 3, 7, 8, 9]), (19, [0, 1, 2, 4, 5, 6, 3, 7, 8, 9])] Tryz.func8 rfl (by kernel_rfl) (Nat.le_of_ble_eq_true rfl) ?_
  have hwd := words_fn s hs hl
  have hwb := rw_byt hs
  have hwl := fun i => Nat.le_trans (rw_len s i) hl
  have hat : ∀ i x, (splB blC s)[i]? = some x → x = rw_ s i := fun i x hx => rw_at hx
  have hpos : 0 < (splB blC s).length := Nat.pos_of_ne_zero fun h => splB_ne _ s (List.eq_nil_of_length_eq_zero h)
  have hst : s = wStats → (splB blC s).length = 1 := stats_words
  have hok := rOrd_ok s
  have ro : rOrd s = rOrd s := rfl
  have hrr : ∀ o, rOrd s = o → rRead s = match mayOB o && decide (lineO o = s) with
    | true => (o, 0)
    | false => (zeroO, 3) := fun o h => rRead_of h
  have hmay := fun o : Ord => may_fnR o
  have hlin := fun (o : Ord) (h : o.ok) => line_fnR o h
  have hlby : ∀ o : Ord, o.ok → mayOB o = true → Byt (lineO o) := fun o ok h => by
    have h2 : MayO o := of_decide_eq_true h
    rw [lineO_may h2]; exact (lineN_ok h2 ok).1
  have hro : rOrd s = match decide ((splB blC s).length = 6) && decide (rw_ s 0 = wVip) with
    | true => ⟨0, 1, valR (rw_ s 1), 0, adr (rw_ s 2), valR (rw_ s 3) % 65536, match decide (rw_ s 4 = wUdp) with
      | true => 17
      | false => 6, named (rw_ s 5)⟩
    | false => match decide ((splB blC s).length = 6) && decide (rw_ s 0 = wBackend) with
      | true => ⟨0, 2, valR (rw_ s 1), valR (rw_ s 2), adr (rw_ s 3), 0, 0, valR (rw_ s 5)⟩
      | false => match decide ((splB blC s).length = 2) && decide (rw_ s 0 = wRemove) with
        | true => ⟨0, 3, valR (rw_ s 1), 0, 0, 0, 0, 0⟩
        | false => match decide ((splB blC s).length = 2) && decide (rw_ s 0 = wDrain) with
          | true => ⟨0, 4, valR (rw_ s 1), 0, 0, 0, 0, 0⟩
          | false => match decide ((splB blC s).length = 3) && decide (rw_ s 0 = wWeight) with
            | true => ⟨0, 5, valR (rw_ s 1), 0, 0, 0, 0, valR (rw_ s 2)⟩
            | false => match decide ((splB blC s).length = 3) && decide (rw_ s 0 = wMode) with
              | true => ⟨0, 6, valR (rw_ s 1), 0, 0, 0, 0, named (rw_ s 2)⟩
              | false => match decide (s = wStats) with
                | true => ⟨0, 7, 0, 0, 0, 0, 0, 0⟩
                | false => zeroO := rfl
  have hv := fun i => value_fn (rw_ s i) (hwb i) (hwl i)
  have hna := fun i => named_fn (rw_ s i) (hwb i)
  have hpa := fun i => parseR_fn (rw_ s i) (hwb i) (hwl i)
  have hu16 := u16_rem (rw_ s 3)
  have hb0 := hwb 0
  have hat0 : ∀ x, (splB blC s)[0]? = some x → x = rw_ s 0 := hat 0
  generalize rw_ s 0 = w0 at *
  generalize hW : splB blC s = W at *
  clear hW hwl
  rcases (by omega : W.length = 6 ∨ W.length = 2 ∨ W.length = 3 ∨ (W.length ≠ 6 ∧ W.length ≠ 2 ∧ W.length ≠ 3)) with hn | hn | hn | ⟨n6, n2, n3⟩
  · have hs7 : s ≠ wStats := fun h => by have := hst h; omega
    rcases Classical.em (w0 = wVip) with ha | ha
    · subst ha
      rcases Classical.em (rw_ s 4 = wUdp) with h4 | h4
      · have e : rOrd s = ⟨0, 1, valR (rw_ s 1), 0, adr (rw_ s 2), valR (rw_ s 3) % 65536, 17, named (rw_ s 5)⟩ := (by rw [hro, hn, decide_eq_true h4]; rfl)
        have hr := hrr _ e
        have ok : (⟨0, 1, valR (rw_ s 1), 0, adr (rw_ s 2), valR (rw_ s 3) % 65536, 17, named (rw_ s 5)⟩ : Ord).ok := e ▸ hok
        have hm := hmay ⟨0, 1, valR (rw_ s 1), 0, adr (rw_ s 2), valR (rw_ s 3) % 65536, 17, named (rw_ s 5)⟩
        have hli := hlin ⟨0, 1, valR (rw_ s 1), 0, adr (rw_ s 2), valR (rw_ s 3) % 65536, 17, named (rw_ s 5)⟩ ok
        have hby := hlby ⟨0, 1, valR (rw_ s 1), 0, adr (rw_ s 2), valR (rw_ s 3) % 65536, 17, named (rw_ s 5)⟩ ok
        conv => whnf
        refine CallVC.pure hwd rfl ?_
        rintro _ rfl
        conv => whnf
        refine Fork.intro (fun _ => ?_) (fun g => (of_decide_eq_false g (by omega)).elim)
        conv => whnf
        refine ⟨rfl, ⟨by decide, by omega⟩, fun x hx => ?_⟩
        obtain rfl := hat0 x hx
        clear hx
        conv => whnf
        refine Fork.intro (fun _ => ?_) (fun g => absurd rfl ((str_is (t := wVip) hb0 (byt_of rfl) g).2 rfl))
        conv => whnf
        refine ⟨rfl, ⟨by decide, by omega⟩, fun x hx => ?_⟩
        obtain rfl := hat 2 x hx
        clear hx
        conv => whnf
        refine CallVC.pure (hpa 2) rfl ?_
        rintro _ ⟨e, rfl⟩
        conv => whnf
        refine ⟨rfl, ⟨by decide, by omega⟩, fun x hx => ?_⟩
        obtain rfl := hat 4 x hx
        clear hx
        conv => whnf
        refine Fork.intro (fun _ => ?_) (fun g => absurd h4 ((str_is (t := wUdp) (hwb 4) (byt_of rfl) g).2 rfl))
        conv => whnf
        refine ⟨Unit, fun _ => ⟨[(5, .loc 1 0), (4, rowsT W), (2, .loc 0 0), (0, strD s)], [(1, .cells 26 (ordD ⟨0, 1, valR (rw_ s 1), 0, adr (rw_ s 2), valR (rw_ s 3) % 65536, 17, named (rw_ s 5)⟩)), (0, .cells 26 (ordD zeroO))], 2, ([], 0)⟩, ?_, fun _ => ?_⟩
        · conv => whnf
          refine ⟨rfl, ⟨by decide, by omega⟩, fun x hx => ?_⟩
          obtain rfl := hat 1 x hx
          clear hx
          conv => whnf
          refine ⟨rfl, ⟨by decide, by omega⟩, fun x hx => ?_⟩
          obtain rfl := hat 3 x hx
          clear hx
          conv => whnf
          refine ⟨rfl, ⟨by decide, by omega⟩, fun x hx => ?_⟩
          obtain rfl := hat 5 x hx
          clear hx
          conv => whnf
          refine ⟨?_, trivial⟩
          conv => whnf
          refine CallVC.pure (hv 1) rfl ?_
          rintro _ rfl
          conv => whnf
          refine ⟨?_, trivial⟩
          conv => whnf
          refine CallVC.pure (hv 3) rfl ?_
          rintro _ rfl
          conv => whnf
          refine ⟨by decide, ?_⟩
          conv => whnf
          rw [hu16]
          conv => whnf
          refine ⟨?_, trivial⟩
          conv => whnf
          refine CallVC.pure (hna 5) rfl ?_
          rintro _ rfl
          conv => whnf
          refine ⟨?_, trivial⟩
          conv => whnf
          refine ⟨(), [], [], ?_⟩
          repeat' (first | exact trivial | exact .inl (DLe.refl _) | exact .inl (DLe.nil _ _) | (refine .inr ⟨rfl, _, ?_, rfl⟩; rfl) | exact rfl | exact Nat.zero_le _ | constructor)
        conv => whnf
        refine Fork.intro (fun _ => ?_) (fun g => (of_decide_eq_false g (by omega)).elim)
        conv => whnf
        refine ⟨rfl, ⟨by decide, by omega⟩, fun x hx => ?_⟩
        obtain rfl := hat0 x hx
        clear hx
        conv => whnf
        refine Fork.intro (fun g => absurd ((str_is (t := wBackend) hb0 (byt_of rfl) g).1 rfl) (by decide)) (fun _ => ?_)
        conv => whnf
        refine Fork.intro (fun g => absurd (of_decide_eq_true g) (by omega)) (fun _ => ?_)
        conv => whnf
        refine Fork.intro (fun g => absurd (of_decide_eq_true g) (by omega)) (fun _ => ?_)
        conv => whnf
        refine Fork.intro (fun g => absurd (of_decide_eq_true g) (by omega)) (fun _ => ?_)
        conv => whnf
        refine Fork.intro (fun g => absurd (of_decide_eq_true g) (by omega)) (fun _ => ?_)
        conv => whnf
        refine Fork.intro (fun g => absurd ((str_is (t := wStats) hs (byt_of rfl) g).1 rfl) (fun h => by have := hst h; omega)) (fun _ => ?_)
        conv => whnf
        refine CallVC.pure hm rfl ?_
        rintro _ rfl
        cases hmb : mayOB ⟨0, 1, valR (rw_ s 1), 0, adr (rw_ s 2), valR (rw_ s 3) % 65536, 17, named (rw_ s 5)⟩ with
        | false =>
          rw [hmb] at hr
          rw [hr]
          conv => whnf
          rfl
        | true =>
          rw [hmb] at hr
          conv => whnf
          refine CallVC.pure hli rfl ?_
          rintro _ rfl
          conv => whnf
          refine Fork.intro (fun h => ?_) (fun h => ?_)
          · have h2 : lineO ⟨0, 1, valR (rw_ s 1), 0, adr (rw_ s 2), valR (rw_ s 3) % 65536, 17, named (rw_ s 5)⟩ ≠ s := (str_ne (hby hmb) hs h).1 rfl
            rw [decide_eq_false h2] at hr
            rw [hr]
            conv => whnf
            rfl
          · have h2 : lineO ⟨0, 1, valR (rw_ s 1), 0, adr (rw_ s 2), valR (rw_ s 3) % 65536, 17, named (rw_ s 5)⟩ = s := (str_ne (hby hmb) hs h).2 rfl
            rw [decide_eq_true h2] at hr
            rw [hr]
            conv => whnf
            rfl
      · have e : rOrd s = ⟨0, 1, valR (rw_ s 1), 0, adr (rw_ s 2), valR (rw_ s 3) % 65536, 6, named (rw_ s 5)⟩ := (by rw [hro, hn, decide_eq_false h4]; rfl)
        have hr := hrr _ e
        have ok : (⟨0, 1, valR (rw_ s 1), 0, adr (rw_ s 2), valR (rw_ s 3) % 65536, 6, named (rw_ s 5)⟩ : Ord).ok := e ▸ hok
        have hm := hmay ⟨0, 1, valR (rw_ s 1), 0, adr (rw_ s 2), valR (rw_ s 3) % 65536, 6, named (rw_ s 5)⟩
        have hli := hlin ⟨0, 1, valR (rw_ s 1), 0, adr (rw_ s 2), valR (rw_ s 3) % 65536, 6, named (rw_ s 5)⟩ ok
        have hby := hlby ⟨0, 1, valR (rw_ s 1), 0, adr (rw_ s 2), valR (rw_ s 3) % 65536, 6, named (rw_ s 5)⟩ ok
        conv => whnf
        refine CallVC.pure hwd rfl ?_
        rintro _ rfl
        conv => whnf
        refine Fork.intro (fun _ => ?_) (fun g => (of_decide_eq_false g (by omega)).elim)
        conv => whnf
        refine ⟨rfl, ⟨by decide, by omega⟩, fun x hx => ?_⟩
        obtain rfl := hat0 x hx
        clear hx
        conv => whnf
        refine Fork.intro (fun _ => ?_) (fun g => absurd rfl ((str_is (t := wVip) hb0 (byt_of rfl) g).2 rfl))
        conv => whnf
        refine ⟨rfl, ⟨by decide, by omega⟩, fun x hx => ?_⟩
        obtain rfl := hat 2 x hx
        clear hx
        conv => whnf
        refine CallVC.pure (hpa 2) rfl ?_
        rintro _ ⟨e, rfl⟩
        conv => whnf
        refine ⟨rfl, ⟨by decide, by omega⟩, fun x hx => ?_⟩
        obtain rfl := hat 4 x hx
        clear hx
        conv => whnf
        refine Fork.intro (fun g => absurd ((str_is (t := wUdp) (hwb 4) (byt_of rfl) g).1 rfl) h4) (fun _ => ?_)
        conv => whnf
        refine ⟨Unit, fun _ => ⟨[(5, .loc 1 0), (4, rowsT W), (2, .loc 0 0), (0, strD s)], [(1, .cells 26 (ordD ⟨0, 1, valR (rw_ s 1), 0, adr (rw_ s 2), valR (rw_ s 3) % 65536, 6, named (rw_ s 5)⟩)), (0, .cells 26 (ordD zeroO))], 2, ([], 0)⟩, ?_, fun _ => ?_⟩
        · conv => whnf
          refine ⟨rfl, ⟨by decide, by omega⟩, fun x hx => ?_⟩
          obtain rfl := hat 1 x hx
          clear hx
          conv => whnf
          refine ⟨rfl, ⟨by decide, by omega⟩, fun x hx => ?_⟩
          obtain rfl := hat 3 x hx
          clear hx
          conv => whnf
          refine ⟨rfl, ⟨by decide, by omega⟩, fun x hx => ?_⟩
          obtain rfl := hat 5 x hx
          clear hx
          conv => whnf
          refine ⟨?_, trivial⟩
          conv => whnf
          refine CallVC.pure (hv 1) rfl ?_
          rintro _ rfl
          conv => whnf
          refine ⟨?_, trivial⟩
          conv => whnf
          refine CallVC.pure (hv 3) rfl ?_
          rintro _ rfl
          conv => whnf
          refine ⟨by decide, ?_⟩
          conv => whnf
          rw [hu16]
          conv => whnf
          refine ⟨?_, trivial⟩
          conv => whnf
          refine CallVC.pure (hna 5) rfl ?_
          rintro _ rfl
          conv => whnf
          refine ⟨?_, trivial⟩
          conv => whnf
          refine ⟨(), [], [], ?_⟩
          repeat' (first | exact trivial | exact .inl (DLe.refl _) | exact .inl (DLe.nil _ _) | (refine .inr ⟨rfl, _, ?_, rfl⟩; rfl) | exact rfl | exact Nat.zero_le _ | constructor)
        conv => whnf
        refine Fork.intro (fun _ => ?_) (fun g => (of_decide_eq_false g (by omega)).elim)
        conv => whnf
        refine ⟨rfl, ⟨by decide, by omega⟩, fun x hx => ?_⟩
        obtain rfl := hat0 x hx
        clear hx
        conv => whnf
        refine Fork.intro (fun g => absurd ((str_is (t := wBackend) hb0 (byt_of rfl) g).1 rfl) (by decide)) (fun _ => ?_)
        conv => whnf
        refine Fork.intro (fun g => absurd (of_decide_eq_true g) (by omega)) (fun _ => ?_)
        conv => whnf
        refine Fork.intro (fun g => absurd (of_decide_eq_true g) (by omega)) (fun _ => ?_)
        conv => whnf
        refine Fork.intro (fun g => absurd (of_decide_eq_true g) (by omega)) (fun _ => ?_)
        conv => whnf
        refine Fork.intro (fun g => absurd (of_decide_eq_true g) (by omega)) (fun _ => ?_)
        conv => whnf
        refine Fork.intro (fun g => absurd ((str_is (t := wStats) hs (byt_of rfl) g).1 rfl) (fun h => by have := hst h; omega)) (fun _ => ?_)
        conv => whnf
        refine CallVC.pure hm rfl ?_
        rintro _ rfl
        cases hmb : mayOB ⟨0, 1, valR (rw_ s 1), 0, adr (rw_ s 2), valR (rw_ s 3) % 65536, 6, named (rw_ s 5)⟩ with
        | false =>
          rw [hmb] at hr
          rw [hr]
          conv => whnf
          rfl
        | true =>
          rw [hmb] at hr
          conv => whnf
          refine CallVC.pure hli rfl ?_
          rintro _ rfl
          conv => whnf
          refine Fork.intro (fun h => ?_) (fun h => ?_)
          · have h2 : lineO ⟨0, 1, valR (rw_ s 1), 0, adr (rw_ s 2), valR (rw_ s 3) % 65536, 6, named (rw_ s 5)⟩ ≠ s := (str_ne (hby hmb) hs h).1 rfl
            rw [decide_eq_false h2] at hr
            rw [hr]
            conv => whnf
            rfl
          · have h2 : lineO ⟨0, 1, valR (rw_ s 1), 0, adr (rw_ s 2), valR (rw_ s 3) % 65536, 6, named (rw_ s 5)⟩ = s := (str_ne (hby hmb) hs h).2 rfl
            rw [decide_eq_true h2] at hr
            rw [hr]
            conv => whnf
            rfl
    rcases Classical.em (w0 = wBackend) with hb | hb
    · subst hb
      have e : rOrd s = ⟨0, 2, valR (rw_ s 1), valR (rw_ s 2), adr (rw_ s 3), 0, 0, valR (rw_ s 5)⟩ := (by rw [hro, hn]; rfl)
      have hr := hrr _ e
      have ok : (⟨0, 2, valR (rw_ s 1), valR (rw_ s 2), adr (rw_ s 3), 0, 0, valR (rw_ s 5)⟩ : Ord).ok := e ▸ hok
      have hm := hmay ⟨0, 2, valR (rw_ s 1), valR (rw_ s 2), adr (rw_ s 3), 0, 0, valR (rw_ s 5)⟩
      have hli := hlin ⟨0, 2, valR (rw_ s 1), valR (rw_ s 2), adr (rw_ s 3), 0, 0, valR (rw_ s 5)⟩ ok
      have hby := hlby ⟨0, 2, valR (rw_ s 1), valR (rw_ s 2), adr (rw_ s 3), 0, 0, valR (rw_ s 5)⟩ ok
      conv => whnf
      refine CallVC.pure hwd rfl ?_
      rintro _ rfl
      conv => whnf
      refine Fork.intro (fun _ => ?_) (fun g => (of_decide_eq_false g (by omega)).elim)
      conv => whnf
      refine ⟨rfl, ⟨by decide, by omega⟩, fun x hx => ?_⟩
      obtain rfl := hat0 x hx
      clear hx
      conv => whnf
      refine Fork.intro (fun g => absurd ((str_is (t := wVip) hb0 (byt_of rfl) g).1 rfl) (by decide)) (fun _ => ?_)
      conv => whnf
      refine Fork.intro (fun _ => ?_) (fun g => (of_decide_eq_false g (by omega)).elim)
      conv => whnf
      refine ⟨rfl, ⟨by decide, by omega⟩, fun x hx => ?_⟩
      obtain rfl := hat0 x hx
      clear hx
      conv => whnf
      refine Fork.intro (fun _ => ?_) (fun g => absurd rfl ((str_is (t := wBackend) hb0 (byt_of rfl) g).2 rfl))
      conv => whnf
      refine ⟨rfl, ⟨by decide, by omega⟩, fun x hx => ?_⟩
      obtain rfl := hat 3 x hx
      clear hx
      conv => whnf
      refine CallVC.pure (hpa 3) rfl ?_
      rintro _ ⟨e, rfl⟩
      conv => whnf
      refine ⟨rfl, ⟨by decide, by omega⟩, fun x hx => ?_⟩
      obtain rfl := hat 1 x hx
      clear hx
      conv => whnf
      refine ⟨rfl, ⟨by decide, by omega⟩, fun x hx => ?_⟩
      obtain rfl := hat 2 x hx
      clear hx
      conv => whnf
      refine ⟨rfl, ⟨by decide, by omega⟩, fun x hx => ?_⟩
      obtain rfl := hat 5 x hx
      clear hx
      conv => whnf
      refine CallVC.pure (hv 1) rfl ?_
      rintro _ rfl
      conv => whnf
      refine CallVC.pure (hv 2) rfl ?_
      rintro _ rfl
      conv => whnf
      refine CallVC.pure (hv 5) rfl ?_
      rintro _ rfl
      conv => whnf
      refine Fork.intro (fun g => absurd (of_decide_eq_true g) (by omega)) (fun _ => ?_)
      conv => whnf
      refine Fork.intro (fun g => absurd (of_decide_eq_true g) (by omega)) (fun _ => ?_)
      conv => whnf
      refine Fork.intro (fun g => absurd (of_decide_eq_true g) (by omega)) (fun _ => ?_)
      conv => whnf
      refine Fork.intro (fun g => absurd (of_decide_eq_true g) (by omega)) (fun _ => ?_)
      conv => whnf
      refine Fork.intro (fun g => absurd ((str_is (t := wStats) hs (byt_of rfl) g).1 rfl) (fun h => by have := hst h; omega)) (fun _ => ?_)
      conv => whnf
      refine CallVC.pure hm rfl ?_
      rintro _ rfl
      cases hmb : mayOB ⟨0, 2, valR (rw_ s 1), valR (rw_ s 2), adr (rw_ s 3), 0, 0, valR (rw_ s 5)⟩ with
      | false =>
        rw [hmb] at hr
        rw [hr]
        conv => whnf
        rfl
      | true =>
        rw [hmb] at hr
        conv => whnf
        refine CallVC.pure hli rfl ?_
        rintro _ rfl
        conv => whnf
        refine Fork.intro (fun h => ?_) (fun h => ?_)
        · have h2 : lineO ⟨0, 2, valR (rw_ s 1), valR (rw_ s 2), adr (rw_ s 3), 0, 0, valR (rw_ s 5)⟩ ≠ s := (str_ne (hby hmb) hs h).1 rfl
          rw [decide_eq_false h2] at hr
          rw [hr]
          conv => whnf
          rfl
        · have h2 : lineO ⟨0, 2, valR (rw_ s 1), valR (rw_ s 2), adr (rw_ s 3), 0, 0, valR (rw_ s 5)⟩ = s := (str_ne (hby hmb) hs h).2 rfl
          rw [decide_eq_true h2] at hr
          rw [hr]
          conv => whnf
          rfl
    have e : rOrd s = ⟨0, 0, 0, 0, 0, 0, 0, 0⟩ := (by rw [hro, hn, decide_eq_false ha, decide_eq_false hb, decide_eq_false hs7]; rfl)
    have hr := hrr _ e
    have ok : (⟨0, 0, 0, 0, 0, 0, 0, 0⟩ : Ord).ok := e ▸ hok
    have hm := hmay ⟨0, 0, 0, 0, 0, 0, 0, 0⟩
    have hli := hlin ⟨0, 0, 0, 0, 0, 0, 0, 0⟩ ok
    have hby := hlby ⟨0, 0, 0, 0, 0, 0, 0, 0⟩ ok
    conv => whnf
    refine CallVC.pure hwd rfl ?_
    rintro _ rfl
    conv => whnf
    refine Fork.intro (fun _ => ?_) (fun g => (of_decide_eq_false g (by omega)).elim)
    conv => whnf
    refine ⟨rfl, ⟨by decide, by omega⟩, fun x hx => ?_⟩
    obtain rfl := hat0 x hx
    clear hx
    conv => whnf
    refine Fork.intro (fun g => absurd ((str_is (t := wVip) hb0 (byt_of rfl) g).1 rfl) ha) (fun _ => ?_)
    conv => whnf
    refine Fork.intro (fun _ => ?_) (fun g => (of_decide_eq_false g (by omega)).elim)
    conv => whnf
    refine ⟨rfl, ⟨by decide, by omega⟩, fun x hx => ?_⟩
    obtain rfl := hat0 x hx
    clear hx
    conv => whnf
    refine Fork.intro (fun g => absurd ((str_is (t := wBackend) hb0 (byt_of rfl) g).1 rfl) hb) (fun _ => ?_)
    conv => whnf
    refine Fork.intro (fun g => absurd (of_decide_eq_true g) (by omega)) (fun _ => ?_)
    conv => whnf
    refine Fork.intro (fun g => absurd (of_decide_eq_true g) (by omega)) (fun _ => ?_)
    conv => whnf
    refine Fork.intro (fun g => absurd (of_decide_eq_true g) (by omega)) (fun _ => ?_)
    conv => whnf
    refine Fork.intro (fun g => absurd (of_decide_eq_true g) (by omega)) (fun _ => ?_)
    conv => whnf
    refine Fork.intro (fun g => absurd ((str_is (t := wStats) hs (byt_of rfl) g).1 rfl) (fun h => by have := hst h; omega)) (fun _ => ?_)
    conv => whnf
    refine CallVC.pure hm rfl ?_
    rintro _ rfl
    cases hmb : mayOB ⟨0, 0, 0, 0, 0, 0, 0, 0⟩ with
    | false =>
      rw [hmb] at hr
      rw [hr]
      conv => whnf
      rfl
    | true =>
      rw [hmb] at hr
      conv => whnf
      refine CallVC.pure hli rfl ?_
      rintro _ rfl
      conv => whnf
      refine Fork.intro (fun h => ?_) (fun h => ?_)
      · have h2 : lineO ⟨0, 0, 0, 0, 0, 0, 0, 0⟩ ≠ s := (str_ne (hby hmb) hs h).1 rfl
        rw [decide_eq_false h2] at hr
        rw [hr]
        conv => whnf
        rfl
      · have h2 : lineO ⟨0, 0, 0, 0, 0, 0, 0, 0⟩ = s := (str_ne (hby hmb) hs h).2 rfl
        rw [decide_eq_true h2] at hr
        rw [hr]
        conv => whnf
        rfl
  · have hs7 : s ≠ wStats := fun h => by have := hst h; omega
    rcases Classical.em (w0 = wRemove) with ha | ha
    · subst ha
      have e : rOrd s = ⟨0, 3, valR (rw_ s 1), 0, 0, 0, 0, 0⟩ := (by rw [hro, hn]; rfl)
      have hr := hrr _ e
      have ok : (⟨0, 3, valR (rw_ s 1), 0, 0, 0, 0, 0⟩ : Ord).ok := e ▸ hok
      have hm := hmay ⟨0, 3, valR (rw_ s 1), 0, 0, 0, 0, 0⟩
      have hli := hlin ⟨0, 3, valR (rw_ s 1), 0, 0, 0, 0, 0⟩ ok
      have hby := hlby ⟨0, 3, valR (rw_ s 1), 0, 0, 0, 0, 0⟩ ok
      conv => whnf
      refine CallVC.pure hwd rfl ?_
      rintro _ rfl
      conv => whnf
      refine Fork.intro (fun g => absurd (of_decide_eq_true g) (by omega)) (fun _ => ?_)
      conv => whnf
      refine Fork.intro (fun g => absurd (of_decide_eq_true g) (by omega)) (fun _ => ?_)
      conv => whnf
      refine Fork.intro (fun _ => ?_) (fun g => (of_decide_eq_false g (by omega)).elim)
      conv => whnf
      refine ⟨rfl, ⟨by decide, by omega⟩, fun x hx => ?_⟩
      obtain rfl := hat0 x hx
      clear hx
      conv => whnf
      refine Fork.intro (fun _ => ?_) (fun g => absurd rfl ((str_is (t := wRemove) hb0 (byt_of rfl) g).2 rfl))
      conv => whnf
      refine ⟨rfl, ⟨by decide, by omega⟩, fun x hx => ?_⟩
      obtain rfl := hat 1 x hx
      clear hx
      conv => whnf
      refine CallVC.pure (hv 1) rfl ?_
      rintro _ rfl
      conv => whnf
      refine Fork.intro (fun _ => ?_) (fun g => (of_decide_eq_false g (by omega)).elim)
      conv => whnf
      refine ⟨rfl, ⟨by decide, by omega⟩, fun x hx => ?_⟩
      obtain rfl := hat0 x hx
      clear hx
      conv => whnf
      refine Fork.intro (fun g => absurd ((str_is (t := wDrain) hb0 (byt_of rfl) g).1 rfl) (by decide)) (fun _ => ?_)
      conv => whnf
      refine Fork.intro (fun g => absurd (of_decide_eq_true g) (by omega)) (fun _ => ?_)
      conv => whnf
      refine Fork.intro (fun g => absurd (of_decide_eq_true g) (by omega)) (fun _ => ?_)
      conv => whnf
      refine Fork.intro (fun g => absurd ((str_is (t := wStats) hs (byt_of rfl) g).1 rfl) (fun h => by have := hst h; omega)) (fun _ => ?_)
      conv => whnf
      refine CallVC.pure hm rfl ?_
      rintro _ rfl
      cases hmb : mayOB ⟨0, 3, valR (rw_ s 1), 0, 0, 0, 0, 0⟩ with
      | false =>
        rw [hmb] at hr
        rw [hr]
        conv => whnf
        rfl
      | true =>
        rw [hmb] at hr
        conv => whnf
        refine CallVC.pure hli rfl ?_
        rintro _ rfl
        conv => whnf
        refine Fork.intro (fun h => ?_) (fun h => ?_)
        · have h2 : lineO ⟨0, 3, valR (rw_ s 1), 0, 0, 0, 0, 0⟩ ≠ s := (str_ne (hby hmb) hs h).1 rfl
          rw [decide_eq_false h2] at hr
          rw [hr]
          conv => whnf
          rfl
        · have h2 : lineO ⟨0, 3, valR (rw_ s 1), 0, 0, 0, 0, 0⟩ = s := (str_ne (hby hmb) hs h).2 rfl
          rw [decide_eq_true h2] at hr
          rw [hr]
          conv => whnf
          rfl
    rcases Classical.em (w0 = wDrain) with hb | hb
    · subst hb
      have e : rOrd s = ⟨0, 4, valR (rw_ s 1), 0, 0, 0, 0, 0⟩ := (by rw [hro, hn]; rfl)
      have hr := hrr _ e
      have ok : (⟨0, 4, valR (rw_ s 1), 0, 0, 0, 0, 0⟩ : Ord).ok := e ▸ hok
      have hm := hmay ⟨0, 4, valR (rw_ s 1), 0, 0, 0, 0, 0⟩
      have hli := hlin ⟨0, 4, valR (rw_ s 1), 0, 0, 0, 0, 0⟩ ok
      have hby := hlby ⟨0, 4, valR (rw_ s 1), 0, 0, 0, 0, 0⟩ ok
      conv => whnf
      refine CallVC.pure hwd rfl ?_
      rintro _ rfl
      conv => whnf
      refine Fork.intro (fun g => absurd (of_decide_eq_true g) (by omega)) (fun _ => ?_)
      conv => whnf
      refine Fork.intro (fun g => absurd (of_decide_eq_true g) (by omega)) (fun _ => ?_)
      conv => whnf
      refine Fork.intro (fun _ => ?_) (fun g => (of_decide_eq_false g (by omega)).elim)
      conv => whnf
      refine ⟨rfl, ⟨by decide, by omega⟩, fun x hx => ?_⟩
      obtain rfl := hat0 x hx
      clear hx
      conv => whnf
      refine Fork.intro (fun g => absurd ((str_is (t := wRemove) hb0 (byt_of rfl) g).1 rfl) (by decide)) (fun _ => ?_)
      conv => whnf
      refine Fork.intro (fun _ => ?_) (fun g => (of_decide_eq_false g (by omega)).elim)
      conv => whnf
      refine ⟨rfl, ⟨by decide, by omega⟩, fun x hx => ?_⟩
      obtain rfl := hat0 x hx
      clear hx
      conv => whnf
      refine Fork.intro (fun _ => ?_) (fun g => absurd rfl ((str_is (t := wDrain) hb0 (byt_of rfl) g).2 rfl))
      conv => whnf
      refine ⟨rfl, ⟨by decide, by omega⟩, fun x hx => ?_⟩
      obtain rfl := hat 1 x hx
      clear hx
      conv => whnf
      refine CallVC.pure (hv 1) rfl ?_
      rintro _ rfl
      conv => whnf
      refine Fork.intro (fun g => absurd (of_decide_eq_true g) (by omega)) (fun _ => ?_)
      conv => whnf
      refine Fork.intro (fun g => absurd (of_decide_eq_true g) (by omega)) (fun _ => ?_)
      conv => whnf
      refine Fork.intro (fun g => absurd ((str_is (t := wStats) hs (byt_of rfl) g).1 rfl) (fun h => by have := hst h; omega)) (fun _ => ?_)
      conv => whnf
      refine CallVC.pure hm rfl ?_
      rintro _ rfl
      cases hmb : mayOB ⟨0, 4, valR (rw_ s 1), 0, 0, 0, 0, 0⟩ with
      | false =>
        rw [hmb] at hr
        rw [hr]
        conv => whnf
        rfl
      | true =>
        rw [hmb] at hr
        conv => whnf
        refine CallVC.pure hli rfl ?_
        rintro _ rfl
        conv => whnf
        refine Fork.intro (fun h => ?_) (fun h => ?_)
        · have h2 : lineO ⟨0, 4, valR (rw_ s 1), 0, 0, 0, 0, 0⟩ ≠ s := (str_ne (hby hmb) hs h).1 rfl
          rw [decide_eq_false h2] at hr
          rw [hr]
          conv => whnf
          rfl
        · have h2 : lineO ⟨0, 4, valR (rw_ s 1), 0, 0, 0, 0, 0⟩ = s := (str_ne (hby hmb) hs h).2 rfl
          rw [decide_eq_true h2] at hr
          rw [hr]
          conv => whnf
          rfl
    have e : rOrd s = ⟨0, 0, 0, 0, 0, 0, 0, 0⟩ := (by rw [hro, hn, decide_eq_false ha, decide_eq_false hb, decide_eq_false hs7]; rfl)
    have hr := hrr _ e
    have ok : (⟨0, 0, 0, 0, 0, 0, 0, 0⟩ : Ord).ok := e ▸ hok
    have hm := hmay ⟨0, 0, 0, 0, 0, 0, 0, 0⟩
    have hli := hlin ⟨0, 0, 0, 0, 0, 0, 0, 0⟩ ok
    have hby := hlby ⟨0, 0, 0, 0, 0, 0, 0, 0⟩ ok
    conv => whnf
    refine CallVC.pure hwd rfl ?_
    rintro _ rfl
    conv => whnf
    refine Fork.intro (fun g => absurd (of_decide_eq_true g) (by omega)) (fun _ => ?_)
    conv => whnf
    refine Fork.intro (fun g => absurd (of_decide_eq_true g) (by omega)) (fun _ => ?_)
    conv => whnf
    refine Fork.intro (fun _ => ?_) (fun g => (of_decide_eq_false g (by omega)).elim)
    conv => whnf
    refine ⟨rfl, ⟨by decide, by omega⟩, fun x hx => ?_⟩
    obtain rfl := hat0 x hx
    clear hx
    conv => whnf
    refine Fork.intro (fun g => absurd ((str_is (t := wRemove) hb0 (byt_of rfl) g).1 rfl) ha) (fun _ => ?_)
    conv => whnf
    refine Fork.intro (fun _ => ?_) (fun g => (of_decide_eq_false g (by omega)).elim)
    conv => whnf
    refine ⟨rfl, ⟨by decide, by omega⟩, fun x hx => ?_⟩
    obtain rfl := hat0 x hx
    clear hx
    conv => whnf
    refine Fork.intro (fun g => absurd ((str_is (t := wDrain) hb0 (byt_of rfl) g).1 rfl) hb) (fun _ => ?_)
    conv => whnf
    refine Fork.intro (fun g => absurd (of_decide_eq_true g) (by omega)) (fun _ => ?_)
    conv => whnf
    refine Fork.intro (fun g => absurd (of_decide_eq_true g) (by omega)) (fun _ => ?_)
    conv => whnf
    refine Fork.intro (fun g => absurd ((str_is (t := wStats) hs (byt_of rfl) g).1 rfl) (fun h => by have := hst h; omega)) (fun _ => ?_)
    conv => whnf
    refine CallVC.pure hm rfl ?_
    rintro _ rfl
    cases hmb : mayOB ⟨0, 0, 0, 0, 0, 0, 0, 0⟩ with
    | false =>
      rw [hmb] at hr
      rw [hr]
      conv => whnf
      rfl
    | true =>
      rw [hmb] at hr
      conv => whnf
      refine CallVC.pure hli rfl ?_
      rintro _ rfl
      conv => whnf
      refine Fork.intro (fun h => ?_) (fun h => ?_)
      · have h2 : lineO ⟨0, 0, 0, 0, 0, 0, 0, 0⟩ ≠ s := (str_ne (hby hmb) hs h).1 rfl
        rw [decide_eq_false h2] at hr
        rw [hr]
        conv => whnf
        rfl
      · have h2 : lineO ⟨0, 0, 0, 0, 0, 0, 0, 0⟩ = s := (str_ne (hby hmb) hs h).2 rfl
        rw [decide_eq_true h2] at hr
        rw [hr]
        conv => whnf
        rfl
  · have hs7 : s ≠ wStats := fun h => by have := hst h; omega
    rcases Classical.em (w0 = wWeight) with ha | ha
    · subst ha
      have e : rOrd s = ⟨0, 5, valR (rw_ s 1), 0, 0, 0, 0, valR (rw_ s 2)⟩ := (by rw [hro, hn]; rfl)
      have hr := hrr _ e
      have ok : (⟨0, 5, valR (rw_ s 1), 0, 0, 0, 0, valR (rw_ s 2)⟩ : Ord).ok := e ▸ hok
      have hm := hmay ⟨0, 5, valR (rw_ s 1), 0, 0, 0, 0, valR (rw_ s 2)⟩
      have hli := hlin ⟨0, 5, valR (rw_ s 1), 0, 0, 0, 0, valR (rw_ s 2)⟩ ok
      have hby := hlby ⟨0, 5, valR (rw_ s 1), 0, 0, 0, 0, valR (rw_ s 2)⟩ ok
      conv => whnf
      refine CallVC.pure hwd rfl ?_
      rintro _ rfl
      conv => whnf
      refine Fork.intro (fun g => absurd (of_decide_eq_true g) (by omega)) (fun _ => ?_)
      conv => whnf
      refine Fork.intro (fun g => absurd (of_decide_eq_true g) (by omega)) (fun _ => ?_)
      conv => whnf
      refine Fork.intro (fun g => absurd (of_decide_eq_true g) (by omega)) (fun _ => ?_)
      conv => whnf
      refine Fork.intro (fun g => absurd (of_decide_eq_true g) (by omega)) (fun _ => ?_)
      conv => whnf
      refine Fork.intro (fun _ => ?_) (fun g => (of_decide_eq_false g (by omega)).elim)
      conv => whnf
      refine ⟨rfl, ⟨by decide, by omega⟩, fun x hx => ?_⟩
      obtain rfl := hat0 x hx
      clear hx
      conv => whnf
      refine Fork.intro (fun _ => ?_) (fun g => absurd rfl ((str_is (t := wWeight) hb0 (byt_of rfl) g).2 rfl))
      conv => whnf
      refine ⟨rfl, ⟨by decide, by omega⟩, fun x hx => ?_⟩
      obtain rfl := hat 1 x hx
      clear hx
      conv => whnf
      refine ⟨rfl, ⟨by decide, by omega⟩, fun x hx => ?_⟩
      obtain rfl := hat 2 x hx
      clear hx
      conv => whnf
      refine CallVC.pure (hv 1) rfl ?_
      rintro _ rfl
      conv => whnf
      refine CallVC.pure (hv 2) rfl ?_
      rintro _ rfl
      conv => whnf
      refine Fork.intro (fun _ => ?_) (fun g => (of_decide_eq_false g (by omega)).elim)
      conv => whnf
      refine ⟨rfl, ⟨by decide, by omega⟩, fun x hx => ?_⟩
      obtain rfl := hat0 x hx
      clear hx
      conv => whnf
      refine Fork.intro (fun g => absurd ((str_is (t := wMode) hb0 (byt_of rfl) g).1 rfl) (by decide)) (fun _ => ?_)
      conv => whnf
      refine Fork.intro (fun g => absurd ((str_is (t := wStats) hs (byt_of rfl) g).1 rfl) (fun h => by have := hst h; omega)) (fun _ => ?_)
      conv => whnf
      refine CallVC.pure hm rfl ?_
      rintro _ rfl
      cases hmb : mayOB ⟨0, 5, valR (rw_ s 1), 0, 0, 0, 0, valR (rw_ s 2)⟩ with
      | false =>
        rw [hmb] at hr
        rw [hr]
        conv => whnf
        rfl
      | true =>
        rw [hmb] at hr
        conv => whnf
        refine CallVC.pure hli rfl ?_
        rintro _ rfl
        conv => whnf
        refine Fork.intro (fun h => ?_) (fun h => ?_)
        · have h2 : lineO ⟨0, 5, valR (rw_ s 1), 0, 0, 0, 0, valR (rw_ s 2)⟩ ≠ s := (str_ne (hby hmb) hs h).1 rfl
          rw [decide_eq_false h2] at hr
          rw [hr]
          conv => whnf
          rfl
        · have h2 : lineO ⟨0, 5, valR (rw_ s 1), 0, 0, 0, 0, valR (rw_ s 2)⟩ = s := (str_ne (hby hmb) hs h).2 rfl
          rw [decide_eq_true h2] at hr
          rw [hr]
          conv => whnf
          rfl
    rcases Classical.em (w0 = wMode) with hb | hb
    · subst hb
      have e : rOrd s = ⟨0, 6, valR (rw_ s 1), 0, 0, 0, 0, named (rw_ s 2)⟩ := (by rw [hro, hn]; rfl)
      have hr := hrr _ e
      have ok : (⟨0, 6, valR (rw_ s 1), 0, 0, 0, 0, named (rw_ s 2)⟩ : Ord).ok := e ▸ hok
      have hm := hmay ⟨0, 6, valR (rw_ s 1), 0, 0, 0, 0, named (rw_ s 2)⟩
      have hli := hlin ⟨0, 6, valR (rw_ s 1), 0, 0, 0, 0, named (rw_ s 2)⟩ ok
      have hby := hlby ⟨0, 6, valR (rw_ s 1), 0, 0, 0, 0, named (rw_ s 2)⟩ ok
      conv => whnf
      refine CallVC.pure hwd rfl ?_
      rintro _ rfl
      conv => whnf
      refine Fork.intro (fun g => absurd (of_decide_eq_true g) (by omega)) (fun _ => ?_)
      conv => whnf
      refine Fork.intro (fun g => absurd (of_decide_eq_true g) (by omega)) (fun _ => ?_)
      conv => whnf
      refine Fork.intro (fun g => absurd (of_decide_eq_true g) (by omega)) (fun _ => ?_)
      conv => whnf
      refine Fork.intro (fun g => absurd (of_decide_eq_true g) (by omega)) (fun _ => ?_)
      conv => whnf
      refine Fork.intro (fun _ => ?_) (fun g => (of_decide_eq_false g (by omega)).elim)
      conv => whnf
      refine ⟨rfl, ⟨by decide, by omega⟩, fun x hx => ?_⟩
      obtain rfl := hat0 x hx
      clear hx
      conv => whnf
      refine Fork.intro (fun g => absurd ((str_is (t := wWeight) hb0 (byt_of rfl) g).1 rfl) (by decide)) (fun _ => ?_)
      conv => whnf
      refine Fork.intro (fun _ => ?_) (fun g => (of_decide_eq_false g (by omega)).elim)
      conv => whnf
      refine ⟨rfl, ⟨by decide, by omega⟩, fun x hx => ?_⟩
      obtain rfl := hat0 x hx
      clear hx
      conv => whnf
      refine Fork.intro (fun _ => ?_) (fun g => absurd rfl ((str_is (t := wMode) hb0 (byt_of rfl) g).2 rfl))
      conv => whnf
      refine ⟨rfl, ⟨by decide, by omega⟩, fun x hx => ?_⟩
      obtain rfl := hat 1 x hx
      clear hx
      conv => whnf
      refine ⟨rfl, ⟨by decide, by omega⟩, fun x hx => ?_⟩
      obtain rfl := hat 2 x hx
      clear hx
      conv => whnf
      refine CallVC.pure (hv 1) rfl ?_
      rintro _ rfl
      conv => whnf
      refine CallVC.pure (hna 2) rfl ?_
      rintro _ rfl
      conv => whnf
      refine Fork.intro (fun g => absurd ((str_is (t := wStats) hs (byt_of rfl) g).1 rfl) (fun h => by have := hst h; omega)) (fun _ => ?_)
      conv => whnf
      refine CallVC.pure hm rfl ?_
      rintro _ rfl
      cases hmb : mayOB ⟨0, 6, valR (rw_ s 1), 0, 0, 0, 0, named (rw_ s 2)⟩ with
      | false =>
        rw [hmb] at hr
        rw [hr]
        conv => whnf
        rfl
      | true =>
        rw [hmb] at hr
        conv => whnf
        refine CallVC.pure hli rfl ?_
        rintro _ rfl
        conv => whnf
        refine Fork.intro (fun h => ?_) (fun h => ?_)
        · have h2 : lineO ⟨0, 6, valR (rw_ s 1), 0, 0, 0, 0, named (rw_ s 2)⟩ ≠ s := (str_ne (hby hmb) hs h).1 rfl
          rw [decide_eq_false h2] at hr
          rw [hr]
          conv => whnf
          rfl
        · have h2 : lineO ⟨0, 6, valR (rw_ s 1), 0, 0, 0, 0, named (rw_ s 2)⟩ = s := (str_ne (hby hmb) hs h).2 rfl
          rw [decide_eq_true h2] at hr
          rw [hr]
          conv => whnf
          rfl
    have e : rOrd s = ⟨0, 0, 0, 0, 0, 0, 0, 0⟩ := (by rw [hro, hn, decide_eq_false ha, decide_eq_false hb, decide_eq_false hs7]; rfl)
    have hr := hrr _ e
    have ok : (⟨0, 0, 0, 0, 0, 0, 0, 0⟩ : Ord).ok := e ▸ hok
    have hm := hmay ⟨0, 0, 0, 0, 0, 0, 0, 0⟩
    have hli := hlin ⟨0, 0, 0, 0, 0, 0, 0, 0⟩ ok
    have hby := hlby ⟨0, 0, 0, 0, 0, 0, 0, 0⟩ ok
    conv => whnf
    refine CallVC.pure hwd rfl ?_
    rintro _ rfl
    conv => whnf
    refine Fork.intro (fun g => absurd (of_decide_eq_true g) (by omega)) (fun _ => ?_)
    conv => whnf
    refine Fork.intro (fun g => absurd (of_decide_eq_true g) (by omega)) (fun _ => ?_)
    conv => whnf
    refine Fork.intro (fun g => absurd (of_decide_eq_true g) (by omega)) (fun _ => ?_)
    conv => whnf
    refine Fork.intro (fun g => absurd (of_decide_eq_true g) (by omega)) (fun _ => ?_)
    conv => whnf
    refine Fork.intro (fun _ => ?_) (fun g => (of_decide_eq_false g (by omega)).elim)
    conv => whnf
    refine ⟨rfl, ⟨by decide, by omega⟩, fun x hx => ?_⟩
    obtain rfl := hat0 x hx
    clear hx
    conv => whnf
    refine Fork.intro (fun g => absurd ((str_is (t := wWeight) hb0 (byt_of rfl) g).1 rfl) ha) (fun _ => ?_)
    conv => whnf
    refine Fork.intro (fun _ => ?_) (fun g => (of_decide_eq_false g (by omega)).elim)
    conv => whnf
    refine ⟨rfl, ⟨by decide, by omega⟩, fun x hx => ?_⟩
    obtain rfl := hat0 x hx
    clear hx
    conv => whnf
    refine Fork.intro (fun g => absurd ((str_is (t := wMode) hb0 (byt_of rfl) g).1 rfl) hb) (fun _ => ?_)
    conv => whnf
    refine Fork.intro (fun g => absurd ((str_is (t := wStats) hs (byt_of rfl) g).1 rfl) (fun h => by have := hst h; omega)) (fun _ => ?_)
    conv => whnf
    refine CallVC.pure hm rfl ?_
    rintro _ rfl
    cases hmb : mayOB ⟨0, 0, 0, 0, 0, 0, 0, 0⟩ with
    | false =>
      rw [hmb] at hr
      rw [hr]
      conv => whnf
      rfl
    | true =>
      rw [hmb] at hr
      conv => whnf
      refine CallVC.pure hli rfl ?_
      rintro _ rfl
      conv => whnf
      refine Fork.intro (fun h => ?_) (fun h => ?_)
      · have h2 : lineO ⟨0, 0, 0, 0, 0, 0, 0, 0⟩ ≠ s := (str_ne (hby hmb) hs h).1 rfl
        rw [decide_eq_false h2] at hr
        rw [hr]
        conv => whnf
        rfl
      · have h2 : lineO ⟨0, 0, 0, 0, 0, 0, 0, 0⟩ = s := (str_ne (hby hmb) hs h).2 rfl
        rw [decide_eq_true h2] at hr
        rw [hr]
        conv => whnf
        rfl
  · rcases Classical.em (s = wStats) with h7 | h7
    · have e : rOrd s = ⟨0, 7, 0, 0, 0, 0, 0, 0⟩ := (by rw [hro, decide_eq_false n6, decide_eq_false n2, decide_eq_false n3, decide_eq_true h7]; rfl)
      have hr := hrr _ e
      have ok : (⟨0, 7, 0, 0, 0, 0, 0, 0⟩ : Ord).ok := e ▸ hok
      have hm := hmay ⟨0, 7, 0, 0, 0, 0, 0, 0⟩
      have hli := hlin ⟨0, 7, 0, 0, 0, 0, 0, 0⟩ ok
      have hby := hlby ⟨0, 7, 0, 0, 0, 0, 0, 0⟩ ok
      conv => whnf
      refine CallVC.pure hwd rfl ?_
      rintro _ rfl
      conv => whnf
      refine Fork.intro (fun g => absurd (of_decide_eq_true g) (by omega)) (fun _ => ?_)
      conv => whnf
      refine Fork.intro (fun g => absurd (of_decide_eq_true g) (by omega)) (fun _ => ?_)
      conv => whnf
      refine Fork.intro (fun g => absurd (of_decide_eq_true g) (by omega)) (fun _ => ?_)
      conv => whnf
      refine Fork.intro (fun g => absurd (of_decide_eq_true g) (by omega)) (fun _ => ?_)
      conv => whnf
      refine Fork.intro (fun g => absurd (of_decide_eq_true g) (by omega)) (fun _ => ?_)
      conv => whnf
      refine Fork.intro (fun g => absurd (of_decide_eq_true g) (by omega)) (fun _ => ?_)
      conv => whnf
      refine Fork.intro (fun _ => ?_) (fun g => absurd h7 ((str_is (t := wStats) hs (byt_of rfl) g).2 rfl))
      conv => whnf
      refine CallVC.pure hm rfl ?_
      rintro _ rfl
      cases hmb : mayOB ⟨0, 7, 0, 0, 0, 0, 0, 0⟩ with
      | false =>
        rw [hmb] at hr
        rw [hr]
        conv => whnf
        rfl
      | true =>
        rw [hmb] at hr
        conv => whnf
        refine CallVC.pure hli rfl ?_
        rintro _ rfl
        conv => whnf
        refine Fork.intro (fun h => ?_) (fun h => ?_)
        · have h2 : lineO ⟨0, 7, 0, 0, 0, 0, 0, 0⟩ ≠ s := (str_ne (hby hmb) hs h).1 rfl
          rw [decide_eq_false h2] at hr
          rw [hr]
          conv => whnf
          rfl
        · have h2 : lineO ⟨0, 7, 0, 0, 0, 0, 0, 0⟩ = s := (str_ne (hby hmb) hs h).2 rfl
          rw [decide_eq_true h2] at hr
          rw [hr]
          conv => whnf
          rfl
    have e : rOrd s = ⟨0, 0, 0, 0, 0, 0, 0, 0⟩ := (by rw [hro, decide_eq_false n6, decide_eq_false n2, decide_eq_false n3, decide_eq_false h7]; rfl)
    have hr := hrr _ e
    have ok : (⟨0, 0, 0, 0, 0, 0, 0, 0⟩ : Ord).ok := e ▸ hok
    have hm := hmay ⟨0, 0, 0, 0, 0, 0, 0, 0⟩
    have hli := hlin ⟨0, 0, 0, 0, 0, 0, 0, 0⟩ ok
    have hby := hlby ⟨0, 0, 0, 0, 0, 0, 0, 0⟩ ok
    conv => whnf
    refine CallVC.pure hwd rfl ?_
    rintro _ rfl
    conv => whnf
    refine Fork.intro (fun g => absurd (of_decide_eq_true g) (by omega)) (fun _ => ?_)
    conv => whnf
    refine Fork.intro (fun g => absurd (of_decide_eq_true g) (by omega)) (fun _ => ?_)
    conv => whnf
    refine Fork.intro (fun g => absurd (of_decide_eq_true g) (by omega)) (fun _ => ?_)
    conv => whnf
    refine Fork.intro (fun g => absurd (of_decide_eq_true g) (by omega)) (fun _ => ?_)
    conv => whnf
    refine Fork.intro (fun g => absurd (of_decide_eq_true g) (by omega)) (fun _ => ?_)
    conv => whnf
    refine Fork.intro (fun g => absurd (of_decide_eq_true g) (by omega)) (fun _ => ?_)
    conv => whnf
    refine Fork.intro (fun g => absurd ((str_is (t := wStats) hs (byt_of rfl) g).1 rfl) h7) (fun _ => ?_)
    conv => whnf
    refine CallVC.pure hm rfl ?_
    rintro _ rfl
    cases hmb : mayOB ⟨0, 0, 0, 0, 0, 0, 0, 0⟩ with
    | false =>
      rw [hmb] at hr
      rw [hr]
      conv => whnf
      rfl
    | true =>
      rw [hmb] at hr
      conv => whnf
      refine CallVC.pure hli rfl ?_
      rintro _ rfl
      conv => whnf
      refine Fork.intro (fun h => ?_) (fun h => ?_)
      · have h2 : lineO ⟨0, 0, 0, 0, 0, 0, 0, 0⟩ ≠ s := (str_ne (hby hmb) hs h).1 rfl
        rw [decide_eq_false h2] at hr
        rw [hr]
        conv => whnf
        rfl
      · have h2 : lineO ⟨0, 0, 0, 0, 0, 0, 0, 0⟩ = s := (str_ne (hby hmb) hs h).2 rfl
        rw [decide_eq_true h2] at hr
        rw [hr]
        conv => whnf
        rfl
end Go.Proofs.YtooaeccmkgockaaGreatDoor.V
