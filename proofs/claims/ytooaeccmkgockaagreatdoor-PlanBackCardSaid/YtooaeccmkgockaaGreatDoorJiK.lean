/-
  plan.Read by value. Conditions: a text of bytes, not too long. (printed by gen_ji.py)
-/
import Derived.Test.YtooaeccmkgockaaGreatDoorK8
namespace Go.Proofs.YtooaeccmkgockaaGreatDoor.V
open Go.RowKit
attribute [local irreducible] Fn FnN OpVC

theorem read1_fn (n : Nat) (hn : n ≤ 100) : Fn Tryz.prog 28 [intD n] fun d => d = strD (protoW n) := by
  refine fnOf [] Tryz.func28 rfl (by kernel_rfl) (Nat.le_of_ble_eq_true rfl) ?_
  conv => whnf
  rw [u8_small (n := (n : Int)) (by omega)]
  conv => whnf
  refine CallVC.pure (proto_fn n) rfl ?_
  rintro _ rfl
  conv => whnf
theorem parseA_fn (l : List Nat) (hl : Byt l) : Fn Tryz.prog 27 [strD l] fun d => ∃ e, d = .tup [.v (.int .u32 (adr l)), intD e] :=
  (parse_fn join_c l hl).mono fun d h => by
    subst h
    unfold adr addrD
    cases pParse l with
    | none => exact ⟨3, rfl⟩
    | some v => exact ⟨0, rfl⟩
theorem u16_wrap (n : Int) : IntKind.u16.wrap n = n % 65536 := by rw [IntKind.wrap]; rfl
theorem prt_eq (l : List Nat) : IntKind.u16.wrap (max (numP l) 0) = prt l := u16_wrap _
theorem wd_at {s : List Nat} {i : Nat} (h : i < 6) {x : List Nat} (hx : (spl 32 s ++ [[], [], [], [], []])[i]? = some x) : x = wd s i := by
  unfold wd
  rw [List.getD_eq_getElem?_getD]
  by_cases hi : i < (spl 32 s).length
  · rw [List.getElem?_append_left hi] at hx
    rw [hx]; rfl
  · rw [List.getElem?_append_right (by omega)] at hx
    rw [List.getElem?_eq_none (by omega)]
    have : x ∈ ([[], [], [], [], []] : List (List Nat)) := List.mem_of_getElem? hx
    simpa using this
theorem wd_byt {s : List Nat} (hs : Byt s) (i : Nat) : Byt (wd s i) := by
  unfold wd
  rw [List.getD_eq_getElem?_getD]
  cases hq : (spl 32 s)[i]? with
  | none => exact .nil
  | some x => exact splB_byt hs (List.mem_of_getElem? hq)
theorem pRead_of {s : List Nat} {n : Int} (h : findW opW (wd s 0) 7 1 = n) : pRead s = match mayOB (pOrdAt s n) && decide (lineO (pOrdAt s n) = s) with
    | true => (pOrdAt s n, 0)
    | false => (zeroO, 3) := by
  unfold pRead pOrd; rw [h]; rfl

theorem wd_len (s : List Nat) (i : Nat) : (wd s i).length ≤ s.length := by
  unfold wd
  rw [List.getD_eq_getElem?_getD]
  cases hq : (spl 32 s)[i]? with
  | none => simp
  | some x => exact (splB_mem _ s x (List.mem_of_getElem? hq)).1
theorem str_ne {s t : List Nat} (hs : Byt s) (ht : Byt t) {b : Bool} (h : (!((strB s).toList == (strB t).toList)) = b) : (b = true → s ≠ t) ∧ (b = false → s = t) := by
  rw [strB_beq hs ht] at h
  subst h
  exact ⟨fun h => by simpa using h, fun h => by simpa using h⟩
theorem find8 (W : Int → List Nat) (s : List Nat) : 0 ≤ findW W s 17 1 ∧ findW W s 17 1 < 256 := by have := find_ok W s (k := 17) (by decide); omega
set_option maxHeartbeats 4000000 in
theorem pread_fn (s : List Nat) (hs : Byt s) (hl : s.length ≤ 100000) : Fn Tryz.prog 7 [strD s] fun d => d = .tup [.agg (ordD (pRead s).1), intD (pRead s).2] := by
  refine fnOf [(13, [0, 1, 2, 4, 5, 6, 3, 8, 7, 9, 10, 11])] Tryz.func7 rfl (by kernel_rfl) (Nat.le_of_ble_eq_true rfl) ?_
  have hsl : (spl 32 s).length ≤ s.length + 1 := splB_len _ s
  have hs0 : 0 < (spl 32 s).length := Nat.pos_of_ne_zero fun h => splB_ne _ s (List.eq_nil_of_length_eq_zero h)
  have hwb := wd_byt hs
  have hfl := findW_le opW (wd s 0) 7 1
  generalize hop : findW opW (wd s 0) 7 1 = op at hfl
  have hr := pRead_of hop
  have hok := pOrdAt_ok s op
  have hmay := may_fnP (pOrdAt s op)
  have hlin := line_fn (pOrdAt s op) hok
  have hlby : mayOB (pOrdAt s op) = true → Byt (lineO (pOrdAt s op)) := fun h => by
    have h2 : MayO (pOrdAt s op) := of_decide_eq_true h
    rw [lineO_may h2]; exact (lineN_ok h2 hok).1
  have hopc : op = 0 ∨ op = 1 ∨ op = 2 ∨ op = 3 ∨ op = 4 ∨ op = 5 ∨ op = 6 ∨ op = 7 := by omega
  generalize hL0 : spl 32 s ++ [[], [], [], [], []] = LL
  have hat : ∀ i, i < 6 → ∀ x, LL[i]? = some x → x = wd s i := fun i hi x hx => by subst hL0; exact wd_at hi hx
  have hLL : LL.length = (spl 32 s).length + 5 := by rw [← hL0, List.length_append]; rfl
  have hL : ∀ i : Nat, i < 6 → (i : Int) < (LL.length : Int) := fun i hi => by omega
  have hN : ∀ i : Nat, i < 6 → i < LL.length := fun i hi => by omega
  have hmap : LL.map strE = (spl 32 s).map strE ++ [[strD []], [strD []], [strD []], [strD []], [strD []]] := by rw [← hL0, List.map_append]; rfl
  clear hL0
  conv => whnf
  refine split_vc (c := 32) s hs hl (by decide) ?_
  conv => whnf
  refine ⟨by decide, ?_⟩
  conv => whnf
  refine ⟨List Nat, strE, LL, hmap, fun _ => rfl, by omega, by show LL.length * 16 ≤ _; omega, rfl, ?_⟩
  conv => whnf
  refine ⟨rfl, ⟨by decide, hL 0 (by decide)⟩, ?_⟩
  conv => whnf
  refine ⟨rfl, hN 0 (by decide), fun x hx => ?_⟩
  obtain rfl := hat 0 (by decide) x hx
  clear hx
  conv => whnf
  refine CallVC.pure (find_fnP opW 24 _ (hwb 0) opW_byt 7 (by decide) fun n _ => word_fn n) rfl ?_
  rintro _ rfl
  rw [hop]
  conv => whnf
  rcases hopc with rfl | rfl | rfl | rfl | rfl | rfl | rfl | rfl
  · conv => whnf
    refine ⟨rfl, ⟨by decide, hL 1 (by decide)⟩, ?_⟩
    conv => whnf
    refine ⟨rfl, hN 1 (by decide), fun x hx => ?_⟩
    obtain rfl := hat 1 (by decide) x hx
    clear hx
    conv => whnf
    refine CallVC.pure (number_fnP _ (hwb 1)) rfl ?_
    rintro _ rfl
    conv => whnf
    refine CallVC.pure hmay rfl ?_
    rintro _ rfl
    cases hm : mayOB (pOrdAt s 0) with
    | false =>
      rw [hm] at hr
      rw [hr]
      conv => whnf
      rfl
    | true =>
      rw [hm] at hr
      conv => whnf
      refine CallVC.pure hlin rfl ?_
      rintro _ rfl
      conv => whnf
      refine Fork.intro (fun h => ?_) (fun h => ?_)
      · have h2 : lineO (pOrdAt s 0) ≠ s := (str_ne (hlby hm) hs h).1 rfl
        rw [decide_eq_false h2] at hr
        rw [hr]
        conv => whnf
        rfl
      · have h2 : lineO (pOrdAt s 0) = s := (str_ne (hlby hm) hs h).2 rfl
        rw [decide_eq_true h2] at hr
        rw [hr]
        conv => whnf
        rfl
  · conv => whnf
    refine ⟨rfl, ⟨by decide, hL 1 (by decide)⟩, ?_⟩
    conv => whnf
    refine ⟨rfl, hN 1 (by decide), fun x hx => ?_⟩
    obtain rfl := hat 1 (by decide) x hx
    clear hx
    conv => whnf
    refine CallVC.pure (number_fnP _ (hwb 1)) rfl ?_
    rintro _ rfl
    conv => whnf
    refine ⟨rfl, ⟨by decide, hL 2 (by decide)⟩, ?_⟩
    conv => whnf
    refine ⟨rfl, hN 2 (by decide), fun x hx => ?_⟩
    obtain rfl := hat 2 (by decide) x hx
    clear hx
    conv => whnf
    refine CallVC.pure (cut_fn (c := 58) _ (hwb 2) (by have := wd_len s 2; omega) (by decide)) rfl ?_
    rintro _ ⟨b, rfl⟩
    conv => whnf
    refine CallVC.pure (parseA_fn _ ((hwb 2).sub (cutL_mem 58 _))) rfl ?_
    rintro _ ⟨e, rfl⟩
    conv => whnf
    refine CallVC.pure (number_fnP _ ((hwb 2).sub (cutR_mem 58 _))) rfl ?_
    rintro _ rfl
    conv => whnf
    rw [prt_eq]
    conv => whnf
    refine ⟨rfl, ⟨by decide, hL 3 (by decide)⟩, ?_⟩
    conv => whnf
    refine ⟨rfl, hN 3 (by decide), fun x hx => ?_⟩
    obtain rfl := hat 3 (by decide) x hx
    clear hx
    conv => whnf
    refine CallVC.pure (find_fnP protoW 28 _ (hwb 3) protoW_byt 17 (by decide) fun n hn => read1_fn n hn) rfl ?_
    rintro _ rfl
    conv => whnf
    rw [u8_small (find8 _ _)]
    conv => whnf
    refine ⟨rfl, ⟨by decide, hL 4 (by decide)⟩, ?_⟩
    conv => whnf
    refine ⟨rfl, hN 4 (by decide), fun x hx => ?_⟩
    obtain rfl := hat 4 (by decide) x hx
    clear hx
    conv => whnf
    refine CallVC.pure (find_fnP modeW 30 _ (hwb 4) modeW_byt 2 (by decide) fun n _ => pmode_fn n) rfl ?_
    rintro _ rfl
    conv => whnf
    refine CallVC.pure hmay rfl ?_
    rintro _ rfl
    cases hm : mayOB (pOrdAt s 1) with
    | false =>
      rw [hm] at hr
      rw [hr]
      conv => whnf
      rfl
    | true =>
      rw [hm] at hr
      conv => whnf
      refine CallVC.pure hlin rfl ?_
      rintro _ rfl
      conv => whnf
      refine Fork.intro (fun h => ?_) (fun h => ?_)
      · have h2 : lineO (pOrdAt s 1) ≠ s := (str_ne (hlby hm) hs h).1 rfl
        rw [decide_eq_false h2] at hr
        rw [hr]
        conv => whnf
        rfl
      · have h2 : lineO (pOrdAt s 1) = s := (str_ne (hlby hm) hs h).2 rfl
        rw [decide_eq_true h2] at hr
        rw [hr]
        conv => whnf
        rfl
  · conv => whnf
    refine ⟨rfl, ⟨by decide, hL 1 (by decide)⟩, ?_⟩
    conv => whnf
    refine ⟨rfl, hN 1 (by decide), fun x hx => ?_⟩
    obtain rfl := hat 1 (by decide) x hx
    clear hx
    conv => whnf
    refine CallVC.pure (number_fnP _ (hwb 1)) rfl ?_
    rintro _ rfl
    conv => whnf
    refine ⟨rfl, ⟨by decide, hL 2 (by decide)⟩, ?_⟩
    conv => whnf
    refine ⟨rfl, hN 2 (by decide), fun x hx => ?_⟩
    obtain rfl := hat 2 (by decide) x hx
    clear hx
    conv => whnf
    refine ⟨rfl, ⟨by decide, hL 5 (by decide)⟩, ?_⟩
    conv => whnf
    refine ⟨rfl, hN 5 (by decide), fun x hx => ?_⟩
    obtain rfl := hat 5 (by decide) x hx
    clear hx
    conv => whnf
    refine CallVC.pure (number_fnP _ (hwb 2)) rfl ?_
    rintro _ rfl
    conv => whnf
    refine CallVC.pure (number_fnP _ (hwb 5)) rfl ?_
    rintro _ rfl
    conv => whnf
    refine ⟨rfl, ⟨by decide, hL 3 (by decide)⟩, ?_⟩
    conv => whnf
    refine ⟨rfl, hN 3 (by decide), fun x hx => ?_⟩
    obtain rfl := hat 3 (by decide) x hx
    clear hx
    conv => whnf
    refine CallVC.pure (parseA_fn _ (hwb 3)) rfl ?_
    rintro _ ⟨e, rfl⟩
    conv => whnf
    refine CallVC.pure hmay rfl ?_
    rintro _ rfl
    cases hm : mayOB (pOrdAt s 2) with
    | false =>
      rw [hm] at hr
      rw [hr]
      conv => whnf
      rfl
    | true =>
      rw [hm] at hr
      conv => whnf
      refine CallVC.pure hlin rfl ?_
      rintro _ rfl
      conv => whnf
      refine Fork.intro (fun h => ?_) (fun h => ?_)
      · have h2 : lineO (pOrdAt s 2) ≠ s := (str_ne (hlby hm) hs h).1 rfl
        rw [decide_eq_false h2] at hr
        rw [hr]
        conv => whnf
        rfl
      · have h2 : lineO (pOrdAt s 2) = s := (str_ne (hlby hm) hs h).2 rfl
        rw [decide_eq_true h2] at hr
        rw [hr]
        conv => whnf
        rfl
  · conv => whnf
    refine ⟨rfl, ⟨by decide, hL 1 (by decide)⟩, ?_⟩
    conv => whnf
    refine ⟨rfl, hN 1 (by decide), fun x hx => ?_⟩
    obtain rfl := hat 1 (by decide) x hx
    clear hx
    conv => whnf
    refine CallVC.pure (number_fnP _ (hwb 1)) rfl ?_
    rintro _ rfl
    conv => whnf
    refine CallVC.pure hmay rfl ?_
    rintro _ rfl
    cases hm : mayOB (pOrdAt s 3) with
    | false =>
      rw [hm] at hr
      rw [hr]
      conv => whnf
      rfl
    | true =>
      rw [hm] at hr
      conv => whnf
      refine CallVC.pure hlin rfl ?_
      rintro _ rfl
      conv => whnf
      refine Fork.intro (fun h => ?_) (fun h => ?_)
      · have h2 : lineO (pOrdAt s 3) ≠ s := (str_ne (hlby hm) hs h).1 rfl
        rw [decide_eq_false h2] at hr
        rw [hr]
        conv => whnf
        rfl
      · have h2 : lineO (pOrdAt s 3) = s := (str_ne (hlby hm) hs h).2 rfl
        rw [decide_eq_true h2] at hr
        rw [hr]
        conv => whnf
        rfl
  · conv => whnf
    refine ⟨rfl, ⟨by decide, hL 1 (by decide)⟩, ?_⟩
    conv => whnf
    refine ⟨rfl, hN 1 (by decide), fun x hx => ?_⟩
    obtain rfl := hat 1 (by decide) x hx
    clear hx
    conv => whnf
    refine CallVC.pure (number_fnP _ (hwb 1)) rfl ?_
    rintro _ rfl
    conv => whnf
    refine CallVC.pure hmay rfl ?_
    rintro _ rfl
    cases hm : mayOB (pOrdAt s 4) with
    | false =>
      rw [hm] at hr
      rw [hr]
      conv => whnf
      rfl
    | true =>
      rw [hm] at hr
      conv => whnf
      refine CallVC.pure hlin rfl ?_
      rintro _ rfl
      conv => whnf
      refine Fork.intro (fun h => ?_) (fun h => ?_)
      · have h2 : lineO (pOrdAt s 4) ≠ s := (str_ne (hlby hm) hs h).1 rfl
        rw [decide_eq_false h2] at hr
        rw [hr]
        conv => whnf
        rfl
      · have h2 : lineO (pOrdAt s 4) = s := (str_ne (hlby hm) hs h).2 rfl
        rw [decide_eq_true h2] at hr
        rw [hr]
        conv => whnf
        rfl
  · conv => whnf
    refine ⟨rfl, ⟨by decide, hL 1 (by decide)⟩, ?_⟩
    conv => whnf
    refine ⟨rfl, hN 1 (by decide), fun x hx => ?_⟩
    obtain rfl := hat 1 (by decide) x hx
    clear hx
    conv => whnf
    refine CallVC.pure (number_fnP _ (hwb 1)) rfl ?_
    rintro _ rfl
    conv => whnf
    refine ⟨rfl, ⟨by decide, hL 2 (by decide)⟩, ?_⟩
    conv => whnf
    refine ⟨rfl, hN 2 (by decide), fun x hx => ?_⟩
    obtain rfl := hat 2 (by decide) x hx
    clear hx
    conv => whnf
    refine CallVC.pure (number_fnP _ (hwb 2)) rfl ?_
    rintro _ rfl
    conv => whnf
    refine CallVC.pure hmay rfl ?_
    rintro _ rfl
    cases hm : mayOB (pOrdAt s 5) with
    | false =>
      rw [hm] at hr
      rw [hr]
      conv => whnf
      rfl
    | true =>
      rw [hm] at hr
      conv => whnf
      refine CallVC.pure hlin rfl ?_
      rintro _ rfl
      conv => whnf
      refine Fork.intro (fun h => ?_) (fun h => ?_)
      · have h2 : lineO (pOrdAt s 5) ≠ s := (str_ne (hlby hm) hs h).1 rfl
        rw [decide_eq_false h2] at hr
        rw [hr]
        conv => whnf
        rfl
      · have h2 : lineO (pOrdAt s 5) = s := (str_ne (hlby hm) hs h).2 rfl
        rw [decide_eq_true h2] at hr
        rw [hr]
        conv => whnf
        rfl
  · conv => whnf
    refine ⟨rfl, ⟨by decide, hL 1 (by decide)⟩, ?_⟩
    conv => whnf
    refine ⟨rfl, hN 1 (by decide), fun x hx => ?_⟩
    obtain rfl := hat 1 (by decide) x hx
    clear hx
    conv => whnf
    refine CallVC.pure (number_fnP _ (hwb 1)) rfl ?_
    rintro _ rfl
    conv => whnf
    refine ⟨rfl, ⟨by decide, hL 2 (by decide)⟩, ?_⟩
    conv => whnf
    refine ⟨rfl, hN 2 (by decide), fun x hx => ?_⟩
    obtain rfl := hat 2 (by decide) x hx
    clear hx
    conv => whnf
    refine CallVC.pure (find_fnP modeW 30 _ (hwb 2) modeW_byt 2 (by decide) fun n _ => pmode_fn n) rfl ?_
    rintro _ rfl
    conv => whnf
    refine CallVC.pure hmay rfl ?_
    rintro _ rfl
    cases hm : mayOB (pOrdAt s 6) with
    | false =>
      rw [hm] at hr
      rw [hr]
      conv => whnf
      rfl
    | true =>
      rw [hm] at hr
      conv => whnf
      refine CallVC.pure hlin rfl ?_
      rintro _ rfl
      conv => whnf
      refine Fork.intro (fun h => ?_) (fun h => ?_)
      · have h2 : lineO (pOrdAt s 6) ≠ s := (str_ne (hlby hm) hs h).1 rfl
        rw [decide_eq_false h2] at hr
        rw [hr]
        conv => whnf
        rfl
      · have h2 : lineO (pOrdAt s 6) = s := (str_ne (hlby hm) hs h).2 rfl
        rw [decide_eq_true h2] at hr
        rw [hr]
        conv => whnf
        rfl
  · conv => whnf
    refine CallVC.pure hmay rfl ?_
    rintro _ rfl
    cases hm : mayOB (pOrdAt s 7) with
    | false =>
      rw [hm] at hr
      rw [hr]
      conv => whnf
      rfl
    | true =>
      rw [hm] at hr
      conv => whnf
      refine CallVC.pure hlin rfl ?_
      rintro _ rfl
      conv => whnf
      refine Fork.intro (fun h => ?_) (fun h => ?_)
      · have h2 : lineO (pOrdAt s 7) ≠ s := (str_ne (hlby hm) hs h).1 rfl
        rw [decide_eq_false h2] at hr
        rw [hr]
        conv => whnf
        rfl
      · have h2 : lineO (pOrdAt s 7) = s := (str_ne (hlby hm) hs h).2 rfl
        rw [decide_eq_true h2] at hr
        rw [hr]
        conv => whnf
        rfl
end Go.Proofs.YtooaeccmkgockaaGreatDoor.V
