/-
  Lines read, by the program and by the document, by value. Conditions: a text of bytes, not too long.
  The farm that lines make, by the program and by the document, by value. Conditions: a text of bytes, not too long.
  The laws PlanLines and PlanTexts by value. Conditions: numbers of their types, a text of bytes.
-/
import Derived.Test.YtooaeccmkgockaaGreatDoorJjK
import Derived.Test.YtooaeccmkgockaaGreatDoorK3
namespace Go.Proofs.YtooaeccmkgockaaGreatDoor.V
open Go.RowKit

theorem dle_tup3 {x y a b : D} (h : DLe x y) : DLe (.tup [x, a, b]) (.tup [y, a, b]) := fun C v hv => by
  cases hv with
  | tup hs hh =>
    refine .tup hs fun j d u hd hu => ?_
    match j, hd with
    | 0, hd => injection hd with hd; subst hd; exact h _ _ (hh 0 x u rfl hu)
    | j + 1, hd => exact hh (j + 1) d u hd hu
theorem dle_tup2 {x y a : D} (h : DLe x y) : DLe (.tup [x, a]) (.tup [y, a]) := fun C v hv => by
  cases hv with
  | tup hs hh =>
    refine .tup hs fun j d u hd hu => ?_
    match j, hd with
    | 0, hd => injection hd with hd; subst hd; exact h _ _ (hh 0 x u rfl hu)
    | j + 1, hd => exact hh (j + 1) d u hd hu
abbrev parseD (r : List Ord × Int × Int) : D := .tup [rowsO r.1, intD r.2.1, intD r.2.2]
attribute [local irreducible] Fn FnN OpVC DLe

theorem pLines_next {l : List (List Nat)} {k : Nat} {q : List Nat} {out : List Ord} {P : List Ord × Int × Int} (hq : l[k]? = some q) (h : P = pLines (l.drop k) k out) : P = match decide (q = []) with
    | true => pLines (l.drop (k + 1)) (k + 1) out
    | false => match decide ((pRead q).2 = 0) with
      | true => pLines (l.drop (k + 1)) (k + 1) (out ++ [{ (pRead q).1 with count := (out.length + 1 : Nat) }])
      | false => ([], (k + 1 : Nat), (pRead q).2) := by
  have hk := (List.getElem?_eq_some_iff.1 hq).1
  have e : l.drop k = q :: l.drop (k + 1) := by
    rw [List.drop_eq_getElem_cons hk]
    congr 1
    rw [List.getElem?_eq_getElem hk] at hq
    injection hq
  rw [h, e, pLines]
  rfl
theorem u64_next {n : Nat} (h : n ≤ 1000000) : IntKind.u64.wrap (IntKind.i64.wrap ((n : Int) + 1)) = ((n + 1 : Nat) : Int) := by
  rw [IntWalk.i64_in _ (by omega), IntWalk.u64_in _ (by omega)]; omega

theorem parseT_big {s : List Nat} (h : 4000 < s.length) : parseT s = ([], 0, 14) := by unfold parseT; rw [decide_eq_true h]
theorem parseT_fit {s : List Nat} (h : ¬ 4000 < s.length) : parseT s = pLines (spl 10 s) 0 [] := by unfold parseT; rw [decide_eq_false h]
set_option maxHeartbeats 2000000 in
theorem parse0_fn (s : List Nat) (hs : Byt s) (hl : s.length ≤ 90000) : Fn Tryz.prog 13 [strD s] fun d => DLe d (parseD (parseT s)) := by
  refine fnOf [] Tryz.func13 rfl (by kernel_rfl) (Nat.le_of_ble_eq_true rfl) ?_
  have hsz : ((strB s).size : Int) = (s.length : Int) := by rw [strB_size]
  have hsl : (spl 10 s).length ≤ s.length + 1 := splB_len _ s
  have hsb : ∀ q, q ∈ spl 10 s → Byt q ∧ q.length ≤ s.length := fun q hq => ⟨splB_byt hs hq, (splB_mem _ s q hq).1⟩
  conv => whnf
  refine Fork.intro (fun h1 => ?_) (fun h1 => ?_)
  · have h1 := of_decide_eq_true h1
    rw [parseT_big (by omega)]
    conv => whnf
    show DLe (.tup [.v (.slice none 0 0), intD 0, intD 14]) (parseD ([], 0, 14))
    exact dle_tup3 (DLe.nil _ _)
  · have h1 := of_decide_eq_false h1
    rw [parseT_fit (by omega)]
    conv => whnf
    refine split_vc (c := 10) s hs (by omega) (by decide) ?_
    generalize spl 10 s = L at *
    conv => whnf
    refine ⟨Nat × List Ord, fun g => ⟨[(16, intD g.1), (15, intD L.length), (14, .grow 0), (5, .grow 1)], [(0, .grow (List Nat) 9 1 strE L), (1, .grow Ord 26 8 ordD g.2)], 2, ([], 0)⟩,
      fun g => g.1 ≤ L.length ∧ g.2.length ≤ g.1 ∧ pLines L 0 [] = pLines (L.drop g.1) g.1 g.2, fun g => L.length - g.1, ⟨(0, []), [], [1], ?_, Nat.zero_le _, Nat.le_refl _, rfl⟩, ?_⟩
    · repeat' (first | exact trivial | exact .inl (DLe.refl _) | exact .inl (DLe.nil _ _) | (refine .inr ⟨rfl, _, ?_, rfl⟩; rfl) | exact rfl | exact Nat.zero_le _ | constructor)
    · rintro ⟨k, out⟩ ⟨hk, ho, he⟩
      dsimp only at hk ho he
      dsimp only
      have e0 : IntKind.i64.wrap ((k : Int) + 1) = ((k + 1 : Nat) : Int) := wrap_next (n := 100002) (by omega) (by decide)
      conv => whnf
      refine Fork.intro (fun h2 => ?_) (fun h2 => ?_)
      · have h2 := of_decide_eq_true h2
        have hlt : k < L.length := by omega
        obtain ⟨q, hq⟩ : ∃ q, L[k]? = some q := ⟨_, List.getElem?_eq_getElem hlt⟩
        have hn := pLines_next hq he
        obtain ⟨hqb, hql⟩ := hsb q (List.mem_of_getElem? hq)
        have hread := pread_fn q hqb (by omega)
        have hro := pRead_ok q
        have hre := pRead_err q
        conv => whnf
        refine ⟨rfl, ⟨by omega, by omega⟩, ?_⟩
        conv => whnf
        refine ⟨rfl, hlt, fun x hx => ?_⟩
        obtain rfl : x = q := Option.some.inj ((show L[k]? = some x from hx).symm.trans hq)
        clear hx
        conv => whnf
        refine Fork.intro (fun h3 => ?_) (fun h3 => ?_)
        · have h3 := (str_is hqb .nil h3).1 rfl
          rw [decide_eq_true h3] at hn
          conv => whnf
          rw [e0]
          refine ⟨(k + 1, out), [], [], ?_, ⟨hlt, by show out.length ≤ k + 1; omega, hn⟩, by show L.length - (k + 1) < L.length - k; omega⟩
          repeat' (first | exact trivial | exact .inl (DLe.refl _) | exact .inl (DLe.nil _ _) | (refine .inr ⟨rfl, _, ?_, rfl⟩; rfl) | exact rfl | exact Nat.zero_le _ | constructor)
        · have h3 := (str_is hqb .nil h3).2 rfl
          rw [decide_eq_false h3] at hn
          generalize pRead x = r at *
          obtain ⟨⟨rc, rop, rid, rvip, raddr, rport, rproto, rnum⟩, re⟩ := r
          dsimp only at hre hn hread
          conv => whnf
          refine CallVC.pure hread rfl ?_
          rintro _ rfl
          conv => whnf
          rcases hre with rfl | rfl
          · replace hn : pLines L 0 [] = pLines (L.drop (k + 1)) (k + 1) (out ++ [⟨((out.length + 1 : Nat) : Int), rop, rid, rvip, raddr, rport, rproto, rnum⟩]) := hn
            conv => whnf
            rw [u64_next (n := out.length) (by omega)]
            conv => whnf
            refine ⟨by decide, ?_⟩
            conv => whnf
            refine ⟨Ord, ordD, out ++ [⟨((out.length + 1 : Nat) : Int), rop, rid, rvip, raddr, rport, rproto, rnum⟩], (by rw [List.map_append]; rfl), fun _ => rfl, by rw [List.length_append]; show out.length + 1 ≤ _; omega, by rw [List.length_append]; show (out.length + 1) * 48 ≤ _; omega, rfl, ?_⟩
            conv => whnf
            rw [e0]
            refine ⟨(k + 1, out ++ [⟨((out.length + 1 : Nat) : Int), rop, rid, rvip, raddr, rport, rproto, rnum⟩]), [(1, 3)], [], ?_, ⟨hlt, by show (out ++ _).length ≤ k + 1; rw [List.length_append]; show out.length + 1 ≤ k + 1; omega, hn⟩, by show L.length - (k + 1) < L.length - k; omega⟩
            repeat' (first | exact trivial | exact .inl (DLe.refl _) | exact .inl (DLe.nil _ _) | (refine .inr ⟨rfl, _, ?_, rfl⟩; rfl) | exact rfl | exact Nat.zero_le _ | constructor)
          · have hn : pLines L 0 [] = ([], ((k + 1 : Nat) : Int), 3) := hn
            rw [hn]
            conv => whnf
            rw [e0]
            show DLe (.tup [.v (.slice none 0 0), intD ((k + 1 : Nat) : Int), intD 3]) (parseD ([], ((k + 1 : Nat) : Int), 3))
            exact dle_tup3 (DLe.nil _ _)
      · have h2 := of_decide_eq_false h2
        obtain rfl : k = L.length := by omega
        rw [List.drop_length, pLines] at he
        rw [he]
        conv => whnf
        show DLe (parseD (out, 0, 0)) (parseD (out, 0, 0))
        exact DLe.refl _
theorem parse_fnP (s : List Nat) (hs : Byt s) (hl : s.length ≤ 90000) : Fn Tryz.prog 13 [strD s] fun d => d = parseD (parseT s) := Fn.exact (parse0_fn s hs hl)

/-! ### The document -/
end Go.Proofs.YtooaeccmkgockaaGreatDoor.V
namespace Go.Proofs.YtooaeccmkgockaaGreatDoor.V
open Go.RowKit

theorem dle_farm0 : DLe (.agg [.v (.slice none 0 0), .v (.slice none 0 0)]) (farmD [] []) := fun C v h => by
  cases h with
  | agg hs hh =>
    refine .agg hs fun j d u hd hu => ?_
    match j, hd with
    | 0, hd => injection hd with hd; subst hd; exact DLe.nil _ _ _ _ (hh 0 _ u rfl hu)
    | 1, hd => injection hd with hd; subst hd; exact DLe.nil _ _ _ _ (hh 1 _ u rfl hu)
    | j + 2, hd => simp at hd
attribute [local irreducible] Fn FnN OpVC DLe

abbrev loadD' (r : (List Vip × List Back) × Int) : D := .tup [farmD r.1.1 r.1.2, intD r.2]
theorem loadL_next {L : List Ord} {k : Nat} {o : Ord} {V : List Vip} {B : List Back} {last : Int} {P : (List Vip × List Back) × Int} (hq : L[k]? = some o) (h : P = loadL (L.drop k) V B last) : P = match decide ((doF V B last o).2 = 0) with
    | true => loadL (L.drop (k + 1)) (doF V B last o).1.1.1 (doF V B last o).1.1.2 (doF V B last o).1.2
    | false => (([], []), (doF V B last o).2) := by
  have hk := (List.getElem?_eq_some_iff.1 hq).1
  have e : L.drop k = o :: L.drop (k + 1) := by
    rw [List.drop_eq_getElem_cons hk]
    congr 1
    rw [List.getElem?_eq_getElem hk] at hq
    injection hq
  rw [h, e, loadL]
  rfl
set_option maxHeartbeats 2000000 in
theorem load0_fn (s : List Nat) (hs : Byt s) (hl : s.length ≤ 90000) : Fn Tryz.prog 15 [strD s] fun d => DLe d (loadD' (loadT s)) := by
  refine fnOf [] Tryz.func15 rfl (by kernel_rfl) (Nat.le_of_ble_eq_true rfl) ?_
  have hparse := parse_fnP s hs hl
  obtain ⟨hpo, hpl⟩ := parseT_ok s hl
  have hlt : loadT s = match decide ((parseT s).2.2 = 0) with
    | true => loadL (parseT s).1 [] [] 0
    | false => (([], []), (parseT s).2.2) := rfl
  generalize parseT s = r at *
  obtain ⟨L, at_, e⟩ := r
  dsimp only at *
  generalize loadT s = R at *
  conv => whnf
  refine CallVC.pure hparse rfl ?_
  rintro _ rfl
  conv => whnf
  refine Fork.intro (fun h1 => ?_) (fun h1 => ?_)
  · have h1 := (not_dec h1).1 rfl
    rw [decide_eq_false h1] at hlt
    replace hlt : R = (([], []), e) := hlt
    rw [hlt]
    conv => whnf
    exact dle_tup2 dle_farm0
  · have h1 := (not_dec h1).2 rfl
    subst h1
    replace hlt : R = loadL L [] [] 0 := hlt
    conv => whnf
    refine ⟨Nat × (List Vip × List Back) × Int, fun g => ⟨[(22, intD g.1), (21, intD L.length), (20, rowsO L), (7, .loc 1 0), (2, .loc 0 0)], [(0, .cells 45 [.v (.slice none 0 0), .v (.slice none 0 0)]), (1, .cells 73 [rowsV g.2.1.1, rowsB g.2.1.2, .v (.int .u64 g.2.2)])], 2, ([], 0)⟩,
      fun g => g.1 ≤ L.length ∧ Good g.2.1.1 g.2.1.2 ∧ R = loadL (L.drop g.1) g.2.1.1 g.2.1.2 g.2.2, fun g => L.length - g.1, ⟨(0, ([], []), 0), [], [], ?_, Nat.zero_le _, good_nil, hlt⟩, ?_⟩
    · repeat' (first | exact trivial | exact .inl (DLe.refl _) | exact .inl (DLe.nil _ _) | (refine .inr ⟨rfl, _, ?_, rfl⟩; rfl) | exact rfl | exact Nat.zero_le _ | constructor)
    · rintro ⟨k, ⟨V, B⟩, last⟩ ⟨hk, hG, he⟩
      dsimp only at hk hG he
      dsimp only
      have e0 : IntKind.i64.wrap ((k : Int) + 1) = ((k + 1 : Nat) : Int) := wrap_next (n := 100002) (by omega) (by decide)
      conv => whnf
      refine Fork.intro (fun h2 => ?_) (fun h2 => ?_)
      · have h2 := of_decide_eq_true h2
        conv => whnf
        refine ⟨rfl, ⟨by omega, h2⟩, fun o hx => ?_⟩
        have hxk : L[k]? = some o := hx
        have hn := loadL_next hxk he
        have ho := hpo o (List.mem_of_getElem? hxk)
        have hdo := do_fn V B last o ho hG
        have hgood := doF_good (last := last) hG ho
        generalize doF V B last o = r at *
        obtain ⟨⟨⟨V', B'⟩, last'⟩, e⟩ := r
        dsimp only at hdo hgood hn
        clear hx hxk
        conv => whnf
        refine CallVC.pure hdo rfl ?_
        rintro _ rfl
        conv => whnf
        refine Fork.intro (fun h3 => ?_) (fun h3 => ?_)
        · have h3 := (not_dec h3).1 rfl
          rw [decide_eq_false h3] at hn
          replace hn : R = (([], []), e) := hn
          rw [hn]
          conv => whnf
          exact dle_tup2 dle_farm0
        · have h3 := (not_dec h3).2 rfl
          subst h3
          replace hn : R = loadL (L.drop (k + 1)) V' B' last' := hn
          conv => whnf
          rw [e0]
          refine ⟨(k + 1, (V', B'), last'), [], [], ?_, ⟨by show k + 1 ≤ L.length; omega, hgood, hn⟩, by show L.length - (k + 1) < L.length - k; omega⟩
          repeat' (first | exact trivial | exact .inl (DLe.refl _) | exact .inl (DLe.nil _ _) | (refine .inr ⟨rfl, _, ?_, rfl⟩; rfl) | exact rfl | exact Nat.zero_le _ | constructor)
      · have h2 := of_decide_eq_false h2
        obtain rfl : k = L.length := by omega
        rw [List.drop_length, loadL] at he
        rw [he]
        conv => whnf
        show DLe (loadD' ((V, B), 0)) (loadD' ((V, B), 0))
        exact DLe.refl _
theorem load_fn (s : List Nat) (hs : Byt s) (hl : s.length ≤ 90000) : Fn Tryz.prog 15 [strD s] fun d => d = loadD' (loadT s) := Fn.exact (load0_fn s hs hl)

end Go.Proofs.YtooaeccmkgockaaGreatDoor.V
namespace Go.Proofs.YtooaeccmkgockaaGreatDoor.V
open Go.RowKit
attribute [local irreducible] Fn FnN OpVC DLe

/-! ### Lives -/
abbrev liveO1 : Ord := ⟨0, 1, 1, 0, 167772240, 80, 6, 1⟩
abbrev liveO2 : Ord := ⟨0, 2, 4, 1, 167837700, 0, 0, 2⟩
abbrev liveL1 : List Nat := [118, 105, 112, 32, 49, 32, 49, 48, 46, 48, 46, 48, 46, 56, 48, 58, 56, 48, 32, 116, 99, 112, 32, 100, 105, 114, 101, 99, 116]
abbrev liveL2 : List Nat := [98, 97, 99, 107, 101, 110, 100, 32, 52, 32, 49, 32, 49, 48, 46, 49, 46, 48, 46, 52, 32, 119, 101, 105, 103, 104, 116, 32, 50]
theorem live_ok1 : liveO1.ok := ⟨by decide, by decide, by decide, by decide, by decide, by decide, by decide⟩
theorem live_ok2 : liveO2.ok := ⟨by decide, by decide, by decide, by decide, by decide, by decide, by decide⟩
theorem live_read1 : pRead liveL1 = (liveO1, 0) := by
  have h : MayO liveO1 := by decide
  have e : lineO liveO1 = liveL1 := by
    rw [lineO_may h]
    show wVip ++ 32 :: (dgs 1 ++ 32 :: ((txt 167772240 ++ 58 :: dgs 80) ++ 32 :: (wTcp ++ 32 :: wDirect))) = _
    rw [dgs_dig (by decide), dgs_dig (by decide)]
    decide +kernel
  rw [← e]
  exact pRead_line h live_ok1
theorem live_read2 : pRead liveL2 = (liveO2, 0) := by
  have h : MayO liveO2 := by decide
  have e : lineO liveO2 = liveL2 := by
    rw [lineO_may h]
    show wBackend ++ 32 :: (dgs 4 ++ 32 :: (dgs 1 ++ 32 :: (txt 167837700 ++ 32 :: (wWeight ++ 32 :: dgs 2)))) = _
    rw [dgs_dig (by decide), dgs_dig (by decide), dgs_dig (by decide)]
    decide +kernel
  rw [← e]
  exact pRead_line h live_ok2
theorem live_load : ∃ v b, loadT (liveL1 ++ 10 :: (liveL2 ++ [10])) = (([v], [b]), 0) := by
  have hp : parseT (liveL1 ++ 10 :: (liveL2 ++ [10])) = ([{ liveO1 with count := 1 }, { liveO2 with count := 2 }], 0, 0) := by
    rw [parseT_fit (by decide)]
    have hs : spl 10 (liveL1 ++ 10 :: (liveL2 ++ [10])) = [liveL1, liveL2, []] := by decide
    rw [hs]
    simp only [pLines, live_read1, live_read2]
    rfl
  unfold loadT
  rw [hp]
  refine ⟨⟨1, 167772240, 80, 6, 1⟩, ⟨4, 1, 167837700, 2, 1, false⟩, ?_⟩
  rfl
set_option maxRecDepth 100000 in
theorem livesL_fn : Fn Tryz.prog 12 [] fun d => d = boolD true := by
  refine fnOf [] Tryz.func12 rfl (by kernel_rfl) (Nat.le_of_ble_eq_true rfl) ?_
  have h1 := pread_fn liveL1 (byt_of rfl) (by decide)
  rw [live_read1] at h1
  obtain ⟨v, b, hl⟩ := live_load
  have h2 := load_fn (liveL1 ++ 10 :: (liveL2 ++ [10])) (byt_of rfl) (by decide)
  rw [hl] at h2
  conv => whnf
  refine CallVC.pure h1 rfl ?_
  rintro _ rfl
  conv => whnf
  refine CallVC.pure h2 rfl ?_
  rintro _ rfl
  conv => whnf
  refine ⟨eqOrdOk, rfl, ?_⟩
  conv => whnf
  rfl

end Go.Proofs.YtooaeccmkgockaaGreatDoor.V
