/-
  Lines read, by the program and by the document, by value. Conditions: a text of bytes, not too long.
-/
import Derived.Test.YtooaeccmkgockaaGreatDoorJmK
namespace Go.Proofs.YtooaeccmkgockaaGreatDoor.V
open Go.RowKit

theorem dle_tup3 {x y a b : D} (h : DLe x y) : DLe (.tup [x, a, b]) (.tup [y, a, b]) := fun C v hv => by
  cases hv with
  | tup hs hh =>
    refine .tup hs fun j d u hd hu => ?_
    match j, hd with
    | 0, hd => injection hd with hd; subst hd; exact h _ _ (hh 0 x u rfl hu)
    | j + 1, hd => exact hh (j + 1) d u hd hu
theorem dle_tup2 {x y a : D} (h : DLe x y) : DLe (.tup [x, a]) (.tup [y, a]) := fun C v hv => by
  cases hv with
  | tup hs hh =>
    refine .tup hs fun j d u hd hu => ?_
    match j, hd with
    | 0, hd => injection hd with hd; subst hd; exact h _ _ (hh 0 x u rfl hu)
    | j + 1, hd => exact hh (j + 1) d u hd hu
abbrev parseD (r : List Ord × Int × Int) : D := .tup [rowsO r.1, intD r.2.1, intD r.2.2]
attribute [local irreducible] Fn FnN OpVC DLe

theorem pLines_next {l : List (List Nat)} {k : Nat} {q : List Nat} {out : List Ord} {P : List Ord × Int × Int} (hq : l[k]? = some q) (h : P = pLines (l.drop k) k out) : P = match decide (q = []) with
    | true => pLines (l.drop (k + 1)) (k + 1) out
    | false => match decide ((pRead q).2 = 0) with
      | true => pLines (l.drop (k + 1)) (k + 1) (out ++ [{ (pRead q).1 with count := (out.length + 1 : Nat) }])
      | false => ([], (k + 1 : Nat), (pRead q).2) := by
  have hk := (List.getElem?_eq_some_iff.1 hq).1
  have e : l.drop k = q :: l.drop (k + 1) := by
    rw [List.drop_eq_getElem_cons hk]
    congr 1
    rw [List.getElem?_eq_getElem hk] at hq
    injection hq
  rw [h, e, pLines]
  rfl
theorem u64_next {n : Nat} (h : n ≤ 1000000) : IntKind.u64.wrap (IntKind.i64.wrap ((n : Int) + 1)) = ((n + 1 : Nat) : Int) := by
  rw [IntWalk.i64_in _ (by omega), IntWalk.u64_in _ (by omega)]; omega

theorem parseT_big {s : List Nat} (h : 4000 < s.length) : parseT s = ([], 0, 14) := by unfold parseT; rw [decide_eq_true h]
theorem parseT_fit {s : List Nat} (h : ¬ 4000 < s.length) : parseT s = pLines (spl 10 s) 0 [] := by unfold parseT; rw [decide_eq_false h]
set_option maxHeartbeats 2000000 in
theorem parse0_fn (s : List Nat) (hs : Byt s) (hl : s.length ≤ 90000) : Fn Tryz.prog 13 [strD s] fun d => DLe d (parseD (parseT s)) := by
  refine fnOf [] Tryz.func13 rfl (by kernel_rfl) (Nat.le_of_ble_eq_true rfl) ?_
  have hsz : ((strB s).size : Int) = (s.length : Int) := by rw [strB_size]
  have hsl : (spl 10 s).length ≤ s.length + 1 := splB_len _ s
  have hsb : ∀ q, q ∈ spl 10 s → Byt q ∧ q.length ≤ s.length := fun q hq => ⟨splB_byt hs hq, (splB_mem _ s q hq).1⟩
  conv => whnf
  refine Fork.intro (fun h1 => ?_) (fun h1 => ?_)
  · have h1 := of_decide_eq_true h1
    rw [parseT_big (by omega)]
    conv => whnf
    show DLe (.tup [.v (.slice none 0 0), intD 0, intD 14]) (parseD ([], 0, 14))
    exact dle_tup3 (DLe.nil _ _)
  · have h1 := of_decide_eq_false h1
    rw [parseT_fit (by omega)]
    conv => whnf
    refine split_vc (c := 10) s hs (by omega) (by decide) ?_
    generalize spl 10 s = L at *
    conv => whnf
    refine ⟨Nat × List Ord, fun g => ⟨[(16, intD g.1), (15, intD L.length), (14, .grow 0), (5, .grow 1)], [(0, .grow (List Nat) 9 1 strE L), (1, .grow Ord 26 8 ordD g.2)], 2, ([], 0)⟩,
      fun g => g.1 ≤ L.length ∧ g.2.length ≤ g.1 ∧ pLines L 0 [] = pLines (L.drop g.1) g.1 g.2, fun g => L.length - g.1, ⟨(0, []), [], [1], ?_, Nat.zero_le _, Nat.le_refl _, rfl⟩, ?_⟩
    · repeat' (first | exact trivial | exact .inl (DLe.refl _) | exact .inl (DLe.nil _ _) | (refine .inr ⟨rfl, _, ?_, rfl⟩; rfl) | exact rfl | exact Nat.zero_le _ | constructor)
    · rintro ⟨k, out⟩ ⟨hk, ho, he⟩
      dsimp only at hk ho he
      dsimp only
      have e0 : IntKind.i64.wrap ((k : Int) + 1) = ((k + 1 : Nat) : Int) := wrap_next (n := 100002) (by omega) (by decide)
      conv => whnf
      refine Fork.intro (fun h2 => ?_) (fun h2 => ?_)
      · have h2 := of_decide_eq_true h2
        have hlt : k < L.length := by omega
        obtain ⟨q, hq⟩ : ∃ q, L[k]? = some q := ⟨_, List.getElem?_eq_getElem hlt⟩
        have hn := pLines_next hq he
        obtain ⟨hqb, hql⟩ := hsb q (List.mem_of_getElem? hq)
        have hread := pread_fn q hqb (by omega)
        have hro := pRead_ok q
        have hre := pRead_err q
        conv => whnf
        refine ⟨rfl, ⟨by omega, by omega⟩, ?_⟩
        conv => whnf
        refine ⟨rfl, hlt, fun x hx => ?_⟩
        obtain rfl : x = q := Option.some.inj ((show L[k]? = some x from hx).symm.trans hq)
        clear hx
        conv => whnf
        refine Fork.intro (fun h3 => ?_) (fun h3 => ?_)
        · have h3 := (str_is hqb .nil h3).1 rfl
          rw [decide_eq_true h3] at hn
          conv => whnf
          rw [e0]
          refine ⟨(k + 1, out), [], [], ?_, ⟨hlt, by show out.length ≤ k + 1; omega, hn⟩, by show L.length - (k + 1) < L.length - k; omega⟩
          repeat' (first | exact trivial | exact .inl (DLe.refl _) | exact .inl (DLe.nil _ _) | (refine .inr ⟨rfl, _, ?_, rfl⟩; rfl) | exact rfl | exact Nat.zero_le _ | constructor)
        · have h3 := (str_is hqb .nil h3).2 rfl
          rw [decide_eq_false h3] at hn
          generalize pRead x = r at *
          obtain ⟨⟨rc, rop, rid, rvip, raddr, rport, rproto, rnum⟩, re⟩ := r
          dsimp only at hre hn hread
          conv => whnf
          refine CallVC.pure hread rfl ?_
          rintro _ rfl
          conv => whnf
          rcases hre with rfl | rfl
          · replace hn : pLines L 0 [] = pLines (L.drop (k + 1)) (k + 1) (out ++ [⟨((out.length + 1 : Nat) : Int), rop, rid, rvip, raddr, rport, rproto, rnum⟩]) := hn
            conv => whnf
            rw [u64_next (n := out.length) (by omega)]
            conv => whnf
            refine ⟨by decide, ?_⟩
            conv => whnf
            refine ⟨Ord, ordD, out ++ [⟨((out.length + 1 : Nat) : Int), rop, rid, rvip, raddr, rport, rproto, rnum⟩], (by rw [List.map_append]; rfl), fun _ => rfl, by rw [List.length_append]; show out.length + 1 ≤ _; omega, by rw [List.length_append]; show (out.length + 1) * 48 ≤ _; omega, rfl, ?_⟩
            conv => whnf
            rw [e0]
            refine ⟨(k + 1, out ++ [⟨((out.length + 1 : Nat) : Int), rop, rid, rvip, raddr, rport, rproto, rnum⟩]), [(1, 3)], [], ?_, ⟨hlt, by show (out ++ _).length ≤ k + 1; rw [List.length_append]; show out.length + 1 ≤ k + 1; omega, hn⟩, by show L.length - (k + 1) < L.length - k; omega⟩
            repeat' (first | exact trivial | exact .inl (DLe.refl _) | exact .inl (DLe.nil _ _) | (refine .inr ⟨rfl, _, ?_, rfl⟩; rfl) | exact rfl | exact Nat.zero_le _ | constructor)
          · have hn : pLines L 0 [] = ([], ((k + 1 : Nat) : Int), 3) := hn
            rw [hn]
            conv => whnf
            rw [e0]
            show DLe (.tup [.v (.slice none 0 0), intD ((k + 1 : Nat) : Int), intD 3]) (parseD ([], ((k + 1 : Nat) : Int), 3))
            exact dle_tup3 (DLe.nil _ _)
      · have h2 := of_decide_eq_false h2
        obtain rfl : k = L.length := by omega
        rw [List.drop_length, pLines] at he
        rw [he]
        conv => whnf
        show DLe (parseD (out, 0, 0)) (parseD (out, 0, 0))
        exact DLe.refl _
theorem parse_fnP (s : List Nat) (hs : Byt s) (hl : s.length ≤ 90000) : Fn Tryz.prog 13 [strD s] fun d => d = parseD (parseT s) := Fn.exact (parse0_fn s hs hl)

/-! ### The document -/
def PsAt (l : List Nat) (g : Nat × Nat × Nat × List Ord) : Prop :=
  1 ≤ g.2.1 ∧ g.2.2.2.length < g.2.1 ∧ g.2.1 ≤ g.1 + 1 ∧ ((g.1 ≤ l.length ∧ g.2.2.1 ≤ g.1 ∧ (∀ c, c ∈ (l.take g.1).drop g.2.2.1 → eqC 10 c = false) ∧ pLines (spl 10 l) 0 [] = pLines (splB (eqC 10) (l.drop g.2.2.1)) (g.2.1 - 1) g.2.2.2) ∨ (g.1 = l.length + 1 ∧ pLines (spl 10 l) 0 [] = (g.2.2.2, 0, 0)))
theorem PsAt.go {l : List Nat} {i n f x : Nat} {out : List Ord} (h : PsAt l (i, n, f, out)) (hx : l[i]? = some x) (hp : eqC 10 x = false) : PsAt l (i + 1, n, f, out) := by
  have hi := (List.getElem?_eq_some_iff.1 hx).1
  obtain ⟨k1, k2, k3, h | h⟩ := h
  · obtain ⟨h1, h2, h3, h4⟩ := h
    dsimp only at *
    refine ⟨k1, k2, by show n ≤ i + 1 + 1; omega, .inl ⟨hi, by show f ≤ i + 1; omega, fun c hc => ?_, h4⟩⟩
    replace hc : c ∈ (l.take (i + 1)).drop f := hc
    rw [List.take_add_one, hx, List.drop_append_of_le_length (by rw [List.length_take]; omega)] at hc
    rcases List.mem_append.1 hc with hc | hc
    · exact h3 c hc
    · have : c = x := by simpa using hc
      rw [this]; exact hp
  · dsimp only at h; omega
theorem PsAt.cut {l : List Nat} {i n f : Nat} {out : List Ord} (h : PsAt l (i, n, f, out)) (hi : i ≤ l.length) (hx : i = l.length ∨ l[i]? = some 10) : f ≤ i ∧ ∃ R, pLines (spl 10 l) 0 [] = pLines ((l.take i).drop f :: R) (n - 1) out ∧
    ∀ out' : List Ord, out'.length < n + 1 → pLines (spl 10 l) 0 [] = pLines R n out' → PsAt l (i + 1, n + 1, i + 1, out') := by
  obtain ⟨k1, k2, k3, h | h⟩ := h
  · obtain ⟨h1, h2, h3, h4⟩ := h
    dsimp only at *
    refine ⟨h2, ?_⟩
    rcases hx with rfl | hx
    · refine ⟨[], ?_, fun out' q1 q2 => ⟨by show 1 ≤ n + 1; omega, q1, by show n + 1 ≤ _; omega, .inr ⟨rfl, q2⟩⟩⟩
      rw [List.take_length] at h3 ⊢
      rw [h4, splB_one h3]
    · refine ⟨splB (eqC 10) (l.drop (i + 1)), ?_, fun out' q1 q2 => ⟨by show 1 ≤ n + 1; omega, q1, by show n + 1 ≤ i + 1 + 1; omega, .inl ⟨?_, Nat.le_refl _, fun c hc => ?_, q2⟩⟩⟩
      · rw [h4, drop_split h2 hx, splB_app h3 (eqC_self 10)]
      · exact (List.getElem?_eq_some_iff.1 hx).1
      · replace hc : c ∈ (l.take (i + 1)).drop (i + 1) := hc
        rw [List.drop_eq_nil_of_le (by rw [List.length_take]; omega)] at hc; cases hc
  · dsimp only at h; omega

set_option maxHeartbeats 2000000 in
theorem rparse0_fn (s : List Nat) (hs : Byt s) (hl : s.length ≤ 90000) : Fn Tryz.prog 14 [strD s] fun d => DLe d (parseD (parseT s)) := by
  refine fnOf [] Tryz.func14 rfl (by kernel_rfl) (Nat.le_of_ble_eq_true rfl) ?_
  have hsz : ((strB s).size : Int) = (s.length : Int) := by rw [strB_size]
  conv => whnf
  refine Fork.intro (fun h1 => ?_) (fun h1 => ?_)
  · have h1 := of_decide_eq_true h1
    rw [parseT_big (by omega)]
    conv => whnf
    show DLe (.tup [.v (.slice none 0 0), intD 0, intD 14]) (parseD ([], 0, 14))
    exact dle_tup3 (DLe.nil _ _)
  · have h1 := of_decide_eq_false h1
    rw [parseT_fit (by omega)]
    conv => whnf
    refine ⟨Nat × Nat × Nat × List Ord, fun g => ⟨[(8, intD g.1), (7, intD g.2.1), (6, intD g.2.2.1), (5, .grow 0), (0, strD s)], [(0, .grow Ord 26 8 ordD g.2.2.2)], 1, ([], 0)⟩,
      PsAt s, fun g => s.length + 1 - g.1, ⟨(0, 1, 0, []), [], [0], ?_, Nat.le_refl _, Nat.zero_lt_one, Nat.le_refl _, .inl ⟨Nat.zero_le _, Nat.le_refl _, fun c hc => (by simp at hc), rfl⟩⟩, ?_⟩
    · repeat' (first | exact trivial | exact .inl (DLe.refl _) | exact .inl (DLe.nil _ _) | (refine .inr ⟨rfl, _, ?_, rfl⟩; rfl) | exact rfl | exact Nat.zero_le _ | constructor)
    · rintro ⟨i, n, f, out⟩ hg
      dsimp only
      have g1 := hg.1; have g2 := hg.2.1; have g3 := hg.2.2.1
      dsimp only at g1 g2 g3
      have hi : i ≤ s.length + 1 := by
        rcases hg.2.2.2 with h | h
        · have := h.1; dsimp only at this; omega
        · have := h.1; dsimp only at this; omega
      have e0 : IntKind.i64.wrap ((i : Int) + 1) = ((i + 1 : Nat) : Int) := wrap_next (n := 100002) (by omega) (by decide)
      have en : IntKind.i64.wrap ((n : Int) + 1) = ((n + 1 : Nat) : Int) := wrap_next (n := 100005) (by omega) (by decide)
      conv => whnf
      refine Fork.intro (fun h2 => ?_) (fun h2 => ?_)
      · have h2 := of_decide_eq_true h2
        conv => whnf
        refine Fork.intro (fun h3 => ?_) (fun h3 => ?_)
        · have h3 := of_decide_eq_true h3
          have hlt : i < s.length := by omega
          obtain ⟨x, hxx⟩ : ∃ x, s[i]? = some x := ⟨_, List.getElem?_eq_getElem hlt⟩
          have hget : ∀ b, (strB s)[i]? = some b → b.toNat = x := fun b hb => by
            have := strB_get hs hb
            rw [hxx] at this
            injection this with this
            exact this.symm
          conv => whnf
          refine ⟨⟨by omega, by omega⟩, fun b hb => ?_⟩
          rw [hget b (by simpa using hb)]
          clear hb hget
          conv => whnf
          refine Fork.intro (fun h5 => ?_) (fun h5 => ?_)
          · have h5 := (not_dec h5).1 rfl
            have hn := hg.go hxx (decide_eq_false (show ¬ x = 10 by omega))
            conv => whnf
            rw [e0]
            refine ⟨(i + 1, n, f, out), [], [], ?_, hn, by show s.length + 1 - (i + 1) < s.length + 1 - i; omega⟩
            repeat' (first | exact trivial | exact .inl (DLe.refl _) | exact .inl (DLe.nil _ _) | (refine .inr ⟨rfl, _, ?_, rfl⟩; rfl) | exact rfl | exact Nat.zero_le _ | constructor)
          · have h5 := (not_dec h5).2 rfl
            obtain rfl : x = 10 := by omega
            have hx : i = s.length ∨ s[i]? = some 10 := .inr hxx
            conv => whnf
            obtain ⟨hf, R, hP, hnext⟩ := hg.cut (by omega) hx
            refine Fork.intro (fun h4 => ?_) (fun h4 => ?_)
            · have h4 := of_decide_eq_true h4
              have hql : ((s.take i).drop f).length = i - f := by rw [List.length_drop, List.length_take]; omega
              have hqb : Byt ((s.take i).drop f) := (hs.take i).drop f
              conv => whnf
              refine ⟨⟨by omega, by omega, by omega⟩, ?_⟩
              rw [strB_extract, Int.toNat_natCast, Int.toNat_natCast]
              generalize (s.take i).drop f = q at *
              have hq : q ≠ [] := fun e => by rw [e] at hql; simp at hql; omega
              rw [pLines, decide_eq_false hq] at hP
              have hread := rread_fn q hqb (by omega)
              rw [read_eq] at hread
              have hre := pRead_err q
              have hnn : n - 1 + 1 = n := by omega
              rw [hnn] at hP
              generalize pRead q = r at *
              obtain ⟨⟨rc, rop, rid, rvip, raddr, rport, rproto, rnum⟩, re⟩ := r
              dsimp only at hre hP hread
              conv => whnf
              refine CallVC.pure hread rfl ?_
              rintro _ rfl
              conv => whnf
              rcases hre with rfl | rfl
              · replace hP : pLines (spl 10 s) 0 [] = pLines R n (out ++ [⟨((out.length + 1 : Nat) : Int), rop, rid, rvip, raddr, rport, rproto, rnum⟩]) := hP
                conv => whnf
                rw [u64_next (n := out.length) (by omega)]
                conv => whnf
                refine ⟨by decide, ?_⟩
                conv => whnf
                refine ⟨Ord, ordD, out ++ [⟨((out.length + 1 : Nat) : Int), rop, rid, rvip, raddr, rport, rproto, rnum⟩], (by rw [List.map_append]; rfl), fun _ => rfl, by rw [List.length_append]; show out.length + 1 ≤ _; omega, by rw [List.length_append]; show (out.length + 1) * 48 ≤ _; omega, rfl, ?_⟩
                conv => whnf
                rw [e0, en]
                refine ⟨(i + 1, n + 1, i + 1, out ++ [⟨((out.length + 1 : Nat) : Int), rop, rid, rvip, raddr, rport, rproto, rnum⟩]), [(0, 2)], [], ?_, hnext _ (by rw [List.length_append]; show out.length + 1 < _; omega) hP, by show s.length + 1 - (i + 1) < s.length + 1 - i; omega⟩
                repeat' (first | exact trivial | exact .inl (DLe.refl _) | exact .inl (DLe.nil _ _) | (refine .inr ⟨rfl, _, ?_, rfl⟩; rfl) | exact rfl | exact Nat.zero_le _ | constructor)
              · replace hP : pLines (spl 10 s) 0 [] = ([], ((n : Nat) : Int), 3) := hP
                rw [hP]
                conv => whnf
                exact dle_tup3 (DLe.nil _ _)
            · have h4 := of_decide_eq_false h4
              have hq : (s.take i).drop f = [] := List.drop_eq_nil_of_le (by rw [List.length_take]; omega)
              rw [hq, pLines, decide_eq_true rfl] at hP
              replace hP : pLines (spl 10 s) 0 [] = pLines R (n - 1 + 1) out := hP
              rw [show n - 1 + 1 = n by omega] at hP
              conv => whnf
              rw [e0, en]
              refine ⟨(i + 1, n + 1, i + 1, out), [], [], ?_, hnext _ (by omega) hP, by show s.length + 1 - (i + 1) < s.length + 1 - i; omega⟩
              repeat' (first | exact trivial | exact .inl (DLe.refl _) | exact .inl (DLe.nil _ _) | (refine .inr ⟨rfl, _, ?_, rfl⟩; rfl) | exact rfl | exact Nat.zero_le _ | constructor)
        · have h3 := of_decide_eq_false h3
          have hx : i = s.length ∨ s[i]? = some 10 := .inl (by omega)
          conv => whnf
          obtain ⟨hf, R, hP, hnext⟩ := hg.cut (by omega) hx
          refine Fork.intro (fun h4 => ?_) (fun h4 => ?_)
          · have h4 := of_decide_eq_true h4
            have hql : ((s.take i).drop f).length = i - f := by rw [List.length_drop, List.length_take]; omega
            have hqb : Byt ((s.take i).drop f) := (hs.take i).drop f
            conv => whnf
            refine ⟨⟨by omega, by omega, by omega⟩, ?_⟩
            rw [strB_extract, Int.toNat_natCast, Int.toNat_natCast]
            generalize (s.take i).drop f = q at *
            have hq : q ≠ [] := fun e => by rw [e] at hql; simp at hql; omega
            rw [pLines, decide_eq_false hq] at hP
            have hread := rread_fn q hqb (by omega)
            rw [read_eq] at hread
            have hre := pRead_err q
            have hnn : n - 1 + 1 = n := by omega
            rw [hnn] at hP
            generalize pRead q = r at *
            obtain ⟨⟨rc, rop, rid, rvip, raddr, rport, rproto, rnum⟩, re⟩ := r
            dsimp only at hre hP hread
            conv => whnf
            refine CallVC.pure hread rfl ?_
            rintro _ rfl
            conv => whnf
            rcases hre with rfl | rfl
            · replace hP : pLines (spl 10 s) 0 [] = pLines R n (out ++ [⟨((out.length + 1 : Nat) : Int), rop, rid, rvip, raddr, rport, rproto, rnum⟩]) := hP
              conv => whnf
              rw [u64_next (n := out.length) (by omega)]
              conv => whnf
              refine ⟨by decide, ?_⟩
              conv => whnf
              refine ⟨Ord, ordD, out ++ [⟨((out.length + 1 : Nat) : Int), rop, rid, rvip, raddr, rport, rproto, rnum⟩], (by rw [List.map_append]; rfl), fun _ => rfl, by rw [List.length_append]; show out.length + 1 ≤ _; omega, by rw [List.length_append]; show (out.length + 1) * 48 ≤ _; omega, rfl, ?_⟩
              conv => whnf
              rw [e0, en]
              refine ⟨(i + 1, n + 1, i + 1, out ++ [⟨((out.length + 1 : Nat) : Int), rop, rid, rvip, raddr, rport, rproto, rnum⟩]), [(0, 2)], [], ?_, hnext _ (by rw [List.length_append]; show out.length + 1 < _; omega) hP, by show s.length + 1 - (i + 1) < s.length + 1 - i; omega⟩
              repeat' (first | exact trivial | exact .inl (DLe.refl _) | exact .inl (DLe.nil _ _) | (refine .inr ⟨rfl, _, ?_, rfl⟩; rfl) | exact rfl | exact Nat.zero_le _ | constructor)
            · replace hP : pLines (spl 10 s) 0 [] = ([], ((n : Nat) : Int), 3) := hP
              rw [hP]
              conv => whnf
              exact dle_tup3 (DLe.nil _ _)
          · have h4 := of_decide_eq_false h4
            have hq : (s.take i).drop f = [] := List.drop_eq_nil_of_le (by rw [List.length_take]; omega)
            rw [hq, pLines, decide_eq_true rfl] at hP
            replace hP : pLines (spl 10 s) 0 [] = pLines R (n - 1 + 1) out := hP
            rw [show n - 1 + 1 = n by omega] at hP
            conv => whnf
            rw [e0, en]
            refine ⟨(i + 1, n + 1, i + 1, out), [], [], ?_, hnext _ (by omega) hP, by show s.length + 1 - (i + 1) < s.length + 1 - i; omega⟩
            repeat' (first | exact trivial | exact .inl (DLe.refl _) | exact .inl (DLe.nil _ _) | (refine .inr ⟨rfl, _, ?_, rfl⟩; rfl) | exact rfl | exact Nat.zero_le _ | constructor)
      · have h2 := of_decide_eq_false h2
        have ho : pLines (spl 10 s) 0 [] = (out, 0, 0) := by
          rcases hg.2.2.2 with h | h
          · have := h.1; dsimp only at this; omega
          · exact h.2
        rw [ho]
        conv => whnf
        show DLe (parseD (out, 0, 0)) (parseD (out, 0, 0))
        exact DLe.refl _
theorem rparse_fnP (s : List Nat) (hs : Byt s) (hl : s.length ≤ 90000) : Fn Tryz.prog 14 [strD s] fun d => d = parseD (parseT s) := Fn.exact (rparse0_fn s hs hl)
end Go.Proofs.YtooaeccmkgockaaGreatDoor.V
