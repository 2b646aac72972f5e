/-
  Lines read as steps, by the program, by value. Conditions: a text of bytes, not too long.
  Lines read as steps, rows of steps compared: the document's, by value. Conditions: a text of bytes, not too long. (printed by gen_iv.py)
  Steps as lines, by the program and by the document, and the law ScriptTexts where lives is true, by value. Conditions: numbers of their types, a text of bytes.
  The law ScriptTexts by value, where lives is true. Conditions: numbers of their types, a text of bytes. (printed by gen_ix.py)
-/
import Derived.Test.YtbjhkhhbdlnfbaaGreatDoorK5
import Derived.Test.YtbjhkhhbdlnfbaaGreatDoorK12
namespace Go.Proofs.YtbjhkhhbdlnfbaaGreatDoor.V
open Go.RowKit

theorem dle_tup3 {x y a b : D} (h : DLe x y) : DLe (.tup [x, a, b]) (.tup [y, a, b]) := fun C v hv => by
  cases hv with
  | tup hs hh =>
    refine .tup hs fun j d u hd hu => ?_
    match j, hd with
    | 0, hd => injection hd with hd; subst hd; exact h _ _ (hh 0 x u rfl hu)
    | j + 1, hd => exact hh (j + 1) d u hd hu
abbrev parseD (r : List Stp × Int × Int) : D := .tup [rowsS r.1, intD r.2.1, intD r.2.2]
attribute [local irreducible] Fn FnN OpVC DLe

theorem pLinesS_next {l : List (List Nat)} {k : Nat} {q : List Nat} {out : List Stp} {P : List Stp × Int × Int} (hq : l[k]? = some q) (h : P = pLinesS (l.drop k) k out) : P = match skipL q with
    | true => pLinesS (l.drop (k + 1)) (k + 1) out
    | false => match decide ((pReadS q).2 = 0) with
      | true => match decide (out.length = 400) with
        | true => ([], (k + 1 : Nat), 14)
        | false => pLinesS (l.drop (k + 1)) (k + 1) (out ++ [(pReadS q).1])
      | false => ([], (k + 1 : Nat), (pReadS q).2) := by
  have hk := (List.getElem?_eq_some_iff.1 hq).1
  have e : l.drop k = q :: l.drop (k + 1) := by
    rw [List.drop_eq_getElem_cons hk]
    congr 1
    rw [List.getElem?_eq_getElem hk] at hq
    injection hq
  rw [h, e, pLinesS]
  rfl
set_option maxHeartbeats 4000000 in
theorem parse0_fn (s : List Nat) (hs : Byt s) (hl : s.length ≤ 900000) : Fn Tryz.prog 16 [strD s] fun d => DLe d (parseD (parseS s)) := by
  refine fnOf [] Tryz.func16 rfl (by kernel_rfl) (Nat.le_of_ble_eq_true rfl) ?_
  have hsl : (spl 10 s).length ≤ s.length + 1 := splB_len _ s
  have hsb : ∀ q, q ∈ spl 10 s → Byt q ∧ q.length ≤ s.length := fun q hq => ⟨splB_byt hs hq, (splB_mem _ s q hq).1⟩
  unfold parseS
  conv => whnf
  refine split_vc (c := 10) s hs (by omega) (by decide) ?_
  generalize spl 10 s = L at *
  conv => whnf
  refine ⟨Nat × List Stp, fun g => ⟨[(13, intD g.1), (12, intD L.length), (11, .grow 0), (5, .grow 1)], [(0, .grow (List Nat) 9 1 strE L), (1, .grow Stp 27 6 stD g.2)], 2, ([], 0)⟩,
    fun g => g.1 ≤ L.length ∧ g.2.length ≤ 400 ∧ pLinesS L 0 [] = pLinesS (L.drop g.1) g.1 g.2, fun g => L.length - g.1, ⟨(0, []), [], [1], ?_, Nat.zero_le _, Nat.zero_le _, rfl⟩, ?_⟩
  · repeat' (first | exact trivial | exact .inl (DLe.refl _) | exact .inl (DLe.nil _ _) | (refine .inr ⟨rfl, _, ?_, rfl⟩; rfl) | exact rfl | exact .inl rfl | exact .inr ⟨rfl, rfl, rfl, rfl⟩ | exact Nat.zero_le _ | constructor)
  rintro ⟨k, out⟩ ⟨hk, ho, he⟩
  dsimp only at hk ho he
  dsimp only
  have e0 := wrap_nx (n := k) (by omega)
  conv => whnf
  refine Fork.intro (fun h2 => ?_) (fun h2 => ?_)
  rotate_left
  · have h2 := of_decide_eq_false h2
    obtain rfl : k = L.length := by omega
    rw [List.drop_length, pLinesS] at he
    rw [he]
    conv => whnf
    show DLe (parseD (out, 0, 0)) (parseD (out, 0, 0))
    exact DLe.refl _
  have h2 := of_decide_eq_true h2
  have hlt : k < L.length := by omega
  obtain ⟨q, hq⟩ : ∃ q, L[k]? = some q := ⟨_, List.getElem?_eq_getElem hlt⟩
  have hn := pLinesS_next hq he
  obtain ⟨hqb, hql⟩ := hsb q (List.mem_of_getElem? hq)
  have hread := pread_fn q hqb (by omega)
  have hre := pReadS_err q
  conv => whnf
  refine ⟨rfl, ⟨by omega, by omega⟩, ?_⟩
  conv => whnf
  refine ⟨rfl, hlt, fun x hx => ?_⟩
  obtain rfl : x = q := Option.some.inj ((show L[k]? = some x from hx).symm.trans hq)
  clear hx
  conv => whnf
  refine Fork.intro (fun h3 => ?_) (fun h3 => ?_)
  · have h3 := (str_is hqb .nil h3).1 rfl
    subst h3
    replace hn : pLinesS L 0 [] = pLinesS (L.drop (k + 1)) (k + 1) out := hn
    conv => whnf
    rw [e0]
    refine ⟨(k + 1, out), [], [], ?_, ⟨hlt, ho, hn⟩, by show L.length - (k + 1) < L.length - k; omega⟩
    repeat' (first | exact trivial | exact .inl (DLe.refl _) | exact .inl (DLe.nil _ _) | (refine .inr ⟨rfl, _, ?_, rfl⟩; rfl) | exact rfl | exact .inl rfl | exact .inr ⟨rfl, rfl, rfl, rfl⟩ | exact Nat.zero_le _ | constructor)
  have h3 := (str_is hqb .nil h3).2 rfl
  obtain ⟨c, r, hcr⟩ : ∃ c r, x = c :: r := by
    cases x with
    | nil => exact absurd rfl h3
    | cons c r => exact ⟨c, r, rfl⟩
  have hget : ∀ b, (strB x)[0]? = some b → b.toNat = c := fun b hb => by
    have := strB_get hqb hb
    rw [hcr] at this
    injection this with this
    exact this.symm
  have hsk : skipL x = decide (c = 35) := by rw [hcr]; rfl
  have hsz : 0 < (strB x).size := by rw [strB_size, hcr]; exact Nat.succ_pos _
  rw [hsk] at hn
  conv => whnf
  refine ⟨⟨by decide, by omega⟩, fun b hb => ?_⟩
  rw [hget b hb]
  clear hb hget hcr hsk
  conv => whnf
  refine Fork.intro (fun h4 => ?_) (fun h4 => ?_)
  · have h4 : c = 35 := by have := of_decide_eq_true h4; omega
    rw [decide_eq_true h4] at hn
    replace hn : pLinesS L 0 [] = pLinesS (L.drop (k + 1)) (k + 1) out := hn
    conv => whnf
    rw [e0]
    refine ⟨(k + 1, out), [], [], ?_, ⟨hlt, ho, hn⟩, by show L.length - (k + 1) < L.length - k; omega⟩
    repeat' (first | exact trivial | exact .inl (DLe.refl _) | exact .inl (DLe.nil _ _) | (refine .inr ⟨rfl, _, ?_, rfl⟩; rfl) | exact rfl | exact .inl rfl | exact .inr ⟨rfl, rfl, rfl, rfl⟩ | exact Nat.zero_le _ | constructor)
  have h4 : ¬ c = 35 := by have := of_decide_eq_false h4; omega
  rw [decide_eq_false h4] at hn
  dsimp only at hn
  generalize pReadS x = rr at *
  obtain ⟨a, re⟩ := rr
  dsimp only at hre hn hread
  conv => whnf
  refine CallVC.pure hread rfl ?_
  rintro _ rfl
  conv => whnf
  rcases hre with rfl | rfl
  · rw [decide_eq_true rfl] at hn
    dsimp only at hn
    conv => whnf
    refine Fork.intro (fun h5 => ?_) (fun h5 => ?_)
    · have h5 : out.length = 400 := by have := of_decide_eq_true h5; omega
      rw [decide_eq_true h5] at hn
      have hn : pLinesS L 0 [] = ([], ((k + 1 : Nat) : Int), 14) := hn
      rw [hn]
      conv => whnf
      rw [e0]
      show DLe (.tup [.v (.slice none 0 0), intD ((k + 1 : Nat) : Int), intD 14]) (parseD ([], ((k + 1 : Nat) : Int), 14))
      exact dle_tup3 (DLe.nil _ _)
    · have h5 : ¬ out.length = 400 := by have := of_decide_eq_false h5; omega
      rw [decide_eq_false h5] at hn
      replace hn : pLinesS L 0 [] = pLinesS (L.drop (k + 1)) (k + 1) (out ++ [a]) := hn
      conv => whnf
      refine ⟨by decide, ?_⟩
      conv => whnf
      refine ⟨Stp, stD, out ++ [a], (by rw [List.map_append]; rfl), fun _ => rfl, by rw [List.length_append]; show out.length + 1 ≤ _; omega, by rw [List.length_append]; show (out.length + 1) * 64 ≤ _; omega, rfl, ?_⟩
      conv => whnf
      rw [e0]
      refine ⟨(k + 1, out ++ [a]), [(1, 3)], [], ?_, ⟨hlt, by show (out ++ [a]).length ≤ 400; rw [List.length_append]; show out.length + 1 ≤ 400; omega, hn⟩, by show L.length - (k + 1) < L.length - k; omega⟩
      repeat' (first | exact trivial | exact .inl (DLe.refl _) | exact .inl (DLe.nil _ _) | (refine .inr ⟨rfl, _, ?_, rfl⟩; rfl) | exact rfl | exact .inl rfl | exact .inr ⟨rfl, rfl, rfl, rfl⟩ | exact Nat.zero_le _ | constructor)
  · have hn : pLinesS L 0 [] = ([], ((k + 1 : Nat) : Int), 3) := hn
    rw [hn]
    conv => whnf
    rw [e0]
    show DLe (.tup [.v (.slice none 0 0), intD ((k + 1 : Nat) : Int), intD 3]) (parseD ([], ((k + 1 : Nat) : Int), 3))
    exact dle_tup3 (DLe.nil _ _)
theorem parse_fn (s : List Nat) (hs : Byt s) (hl : s.length ≤ 900000) : Fn Tryz.prog 16 [strD s] fun d => d = parseD (parseS s) := Fn.exact (parse0_fn s hs hl)
end Go.Proofs.YtbjhkhhbdlnfbaaGreatDoor.V
namespace Go.Proofs.YtbjhkhhbdlnfbaaGreatDoor.V
open Go.RowKit
attribute [local irreducible] Fn FnN OpVC DLe

def PsAt (l : List Nat) (g : Nat × Nat × Nat × List Stp) : Prop :=
  1 ≤ g.2.1 ∧ g.2.2.2.length ≤ 400 ∧ g.2.1 ≤ g.1 + 1 ∧ ((g.1 ≤ l.length ∧ g.2.2.1 ≤ g.1 ∧ (∀ c, c ∈ (l.take g.1).drop g.2.2.1 → eqC 10 c = false) ∧ pLinesS (spl 10 l) 0 [] = pLinesS (splB (eqC 10) (l.drop g.2.2.1)) (g.2.1 - 1) g.2.2.2) ∨ (g.1 = l.length + 1 ∧ pLinesS (spl 10 l) 0 [] = (g.2.2.2, 0, 0)))
theorem PsAt.go {l : List Nat} {i n f x : Nat} {out : List Stp} (h : PsAt l (i, n, f, out)) (hx : l[i]? = some x) (hp : eqC 10 x = false) : PsAt l (i + 1, n, f, out) := by
  have hi := (List.getElem?_eq_some_iff.1 hx).1
  obtain ⟨k1, k2, k3, h | h⟩ := h
  · obtain ⟨h1, h2, h3, h4⟩ := h
    dsimp only at *
    refine ⟨k1, k2, by show n ≤ i + 1 + 1; omega, .inl ⟨hi, by show f ≤ i + 1; omega, fun c hc => ?_, h4⟩⟩
    replace hc : c ∈ (l.take (i + 1)).drop f := hc
    rw [List.take_add_one, hx, List.drop_append_of_le_length (by rw [List.length_take]; omega)] at hc
    rcases List.mem_append.1 hc with hc | hc
    · exact h3 c hc
    · have : c = x := by simpa using hc
      rw [this]; exact hp
  · dsimp only at h; omega
theorem PsAt.cut {l : List Nat} {i n f : Nat} {out : List Stp} (h : PsAt l (i, n, f, out)) (hi : i ≤ l.length) (hx : i = l.length ∨ l[i]? = some 10) : f ≤ i ∧ ∃ R, pLinesS (spl 10 l) 0 [] = pLinesS ((l.take i).drop f :: R) (n - 1) out ∧
    ∀ out' : List Stp, out'.length ≤ 400 → pLinesS (spl 10 l) 0 [] = pLinesS R n out' → PsAt l (i + 1, n + 1, i + 1, out') := by
  obtain ⟨k1, k2, k3, h | h⟩ := h
  · obtain ⟨h1, h2, h3, h4⟩ := h
    dsimp only at *
    refine ⟨h2, ?_⟩
    rcases hx with rfl | hx
    · refine ⟨[], ?_, fun out' q1 q2 => ⟨by show 1 ≤ n + 1; omega, q1, by show n + 1 ≤ _; omega, .inr ⟨rfl, q2⟩⟩⟩
      rw [List.take_length] at h3 ⊢
      rw [h4, splB_one h3]
    · refine ⟨splB (eqC 10) (l.drop (i + 1)), ?_, fun out' q1 q2 => ⟨by show 1 ≤ n + 1; omega, q1, by show n + 1 ≤ i + 1 + 1; omega, .inl ⟨?_, Nat.le_refl _, fun c hc => ?_, q2⟩⟩⟩
      · rw [h4, drop_split h2 hx, splB_app h3 (eqC_self 10)]
      · exact (List.getElem?_eq_some_iff.1 hx).1
      · replace hc : c ∈ (l.take (i + 1)).drop (i + 1) := hc
        rw [List.drop_eq_nil_of_le (by rw [List.length_take]; omega)] at hc; cases hc
  · dsimp only at h; omega

set_option maxHeartbeats 4000000 in
theorem rparse0_fn (s : List Nat) (hs : Byt s) (hl : s.length ≤ 900000) : Fn Tryz.prog 17 [strD s] fun d => DLe d (parseD (parseS s)) := by
  refine fnOf [] Tryz.func17 rfl (by kernel_rfl) (Nat.le_of_ble_eq_true rfl) ?_
  have hsz : ((strB s).size : Int) = (s.length : Int) := by rw [strB_size]
  unfold parseS
  conv => whnf
  refine ⟨Nat × Nat × Nat × List Stp, fun g => ⟨[(8, intD g.1), (7, intD g.2.1), (6, intD g.2.2.1), (5, .grow 0), (0, strD s)], [(0, .grow Stp 27 6 stD g.2.2.2)], 1, ([], 0)⟩,
    PsAt s, fun g => s.length + 1 - g.1, ⟨(0, 1, 0, []), [], [0], ?_, Nat.le_refl _, Nat.zero_le _, Nat.le_refl _, .inl ⟨Nat.zero_le _, Nat.le_refl _, fun c hc => (by simp at hc), rfl⟩⟩, ?_⟩
  · repeat' (first | exact trivial | exact .inl (DLe.refl _) | exact .inl (DLe.nil _ _) | (refine .inr ⟨rfl, _, ?_, rfl⟩; rfl) | exact rfl | exact .inl rfl | exact .inr ⟨rfl, rfl, rfl, rfl⟩ | exact Nat.zero_le _ | constructor)
  rintro ⟨i, n, f, out⟩ hg
  dsimp only
  have g1 := hg.1; have g2 := hg.2.1; have g3 := hg.2.2.1
  dsimp only at g1 g2 g3
  have hi : i ≤ s.length + 1 := by
    rcases hg.2.2.2 with h | h
    · have := h.1; dsimp only at this; omega
    · have := h.1; dsimp only at this; omega
  have e0 := wrap_nx (n := i) (by omega)
  have en := wrap_nx (n := n) (by omega)
  conv => whnf
  refine Fork.intro (fun h2 => ?_) (fun h2 => ?_)
  rotate_left
  · have h2 := of_decide_eq_false h2
    have ho : pLinesS (spl 10 s) 0 [] = (out, 0, 0) := by
      rcases hg.2.2.2 with h | h
      · have := h.1; dsimp only at this; omega
      · exact h.2
    rw [ho]
    conv => whnf
    show DLe (parseD (out, 0, 0)) (parseD (out, 0, 0))
    exact DLe.refl _
  have h2 := of_decide_eq_true h2
  conv => whnf
  refine Fork.intro (fun h3 => ?_) (fun h3 => ?_)
  · have h3 := of_decide_eq_true h3
    have hlt : i < s.length := by omega
    obtain ⟨x, hxx⟩ : ∃ x, s[i]? = some x := ⟨_, List.getElem?_eq_getElem hlt⟩
    have hget : ∀ b, (strB s)[i]? = some b → b.toNat = x := fun b hb => by
      have := strB_get hs hb
      rw [hxx] at this
      injection this with this
      exact this.symm
    conv => whnf
    refine ⟨⟨by omega, by omega⟩, fun b hb => ?_⟩
    rw [hget b (by simpa using hb)]
    clear hb hget
    conv => whnf
    refine Fork.intro (fun h5 => ?_) (fun h5 => ?_)
    · have h5 := (not_dec h5).1 rfl
      have hn := hg.go hxx (decide_eq_false (show ¬ x = 10 by omega))
      conv => whnf
      rw [e0]
      refine ⟨(i + 1, n, f, out), [], [], ?_, hn, by show s.length + 1 - (i + 1) < s.length + 1 - i; omega⟩
      repeat' (first | exact trivial | exact .inl (DLe.refl _) | exact .inl (DLe.nil _ _) | (refine .inr ⟨rfl, _, ?_, rfl⟩; rfl) | exact rfl | exact .inl rfl | exact .inr ⟨rfl, rfl, rfl, rfl⟩ | exact Nat.zero_le _ | constructor)
    · have h5 := (not_dec h5).2 rfl
      obtain rfl : x = 10 := by omega
      have hx : i = s.length ∨ s[i]? = some 10 := .inr hxx
      conv => whnf
      obtain ⟨hf, R, hP, hnext⟩ := hg.cut (by omega) hx
      refine ⟨⟨by omega, by omega, by omega⟩, ?_⟩
      rw [strB_extract, Int.toNat_natCast, Int.toNat_natCast]
      have hql : ((s.take i).drop f).length = i - f := by rw [List.length_drop, List.length_take]; omega
      have hqb : Byt ((s.take i).drop f) := (hs.take i).drop f
      clear hg hx
      generalize (s.take i).drop f = q at *
      have hnn : n - 1 + 1 = n := by omega
      rw [pLinesS, hnn] at hP
      have hread := rread_fn q hqb (by omega)
      have hre := pReadS_err q
      conv => whnf
      refine Fork.intro (fun h4 => ?_) (fun h4 => ?_)
      rotate_left
      · have h4 := (str_ne hqb .nil h4).2 rfl
        subst h4
        replace hP : pLinesS (spl 10 s) 0 [] = pLinesS R n out := hP
        conv => whnf
        rw [e0, en]
        refine ⟨(i + 1, n + 1, i + 1, out), [], [], ?_, hnext _ g2 hP, by show s.length + 1 - (i + 1) < s.length + 1 - i; omega⟩
        repeat' (first | exact trivial | exact .inl (DLe.refl _) | exact .inl (DLe.nil _ _) | (refine .inr ⟨rfl, _, ?_, rfl⟩; rfl) | exact rfl | exact .inl rfl | exact .inr ⟨rfl, rfl, rfl, rfl⟩ | exact Nat.zero_le _ | constructor)
      have h4 := (str_ne hqb .nil h4).1 rfl
      obtain ⟨c, r, hcr⟩ : ∃ c r, q = c :: r := by
        cases q with
        | nil => exact absurd rfl h4
        | cons c r => exact ⟨c, r, rfl⟩
      have hget : ∀ b, (strB q)[0]? = some b → b.toNat = c := fun b hb => by
        have := strB_get hqb hb
        rw [hcr] at this
        injection this with this
        exact this.symm
      have hsk : skipL q = decide (c = 35) := by rw [hcr]; rfl
      have hsz2 : 0 < (strB q).size := by rw [strB_size, hcr]; exact Nat.succ_pos _
      rw [hsk] at hP
      conv => whnf
      refine ⟨⟨by decide, by omega⟩, fun b hb => ?_⟩
      rw [hget b hb]
      clear hb hget hcr hsk
      conv => whnf
      refine Fork.intro (fun h6 => ?_) (fun h6 => ?_)
      rotate_left
      · have h6 : c = 35 := by have := (not_dec h6).2 rfl; omega
        rw [decide_eq_true h6] at hP
        replace hP : pLinesS (spl 10 s) 0 [] = pLinesS R n out := hP
        conv => whnf
        rw [e0, en]
        refine ⟨(i + 1, n + 1, i + 1, out), [], [], ?_, hnext _ g2 hP, by show s.length + 1 - (i + 1) < s.length + 1 - i; omega⟩
        repeat' (first | exact trivial | exact .inl (DLe.refl _) | exact .inl (DLe.nil _ _) | (refine .inr ⟨rfl, _, ?_, rfl⟩; rfl) | exact rfl | exact .inl rfl | exact .inr ⟨rfl, rfl, rfl, rfl⟩ | exact Nat.zero_le _ | constructor)
      have h6 : ¬ c = 35 := by have := (not_dec h6).1 rfl; omega
      rw [decide_eq_false h6] at hP
      dsimp only at hP
      generalize pReadS q = rr at *
      obtain ⟨a, re⟩ := rr
      dsimp only at hre hP hread
      conv => whnf
      refine CallVC.pure hread rfl ?_
      rintro _ rfl
      conv => whnf
      rcases hre with rfl | rfl
      · rw [decide_eq_true rfl] at hP
        dsimp only at hP
        conv => whnf
        refine Fork.intro (fun h7 => ?_) (fun h7 => ?_)
        · have h7 : out.length = 400 := by have := of_decide_eq_true h7; omega
          rw [decide_eq_true h7] at hP
          replace hP : pLinesS (spl 10 s) 0 [] = ([], ((n : Nat) : Int), 14) := hP
          rw [hP]
          conv => whnf
          exact dle_tup3 (DLe.nil _ _)
        · have h7 : ¬ out.length = 400 := by have := of_decide_eq_false h7; omega
          rw [decide_eq_false h7] at hP
          replace hP : pLinesS (spl 10 s) 0 [] = pLinesS R n (out ++ [a]) := hP
          conv => whnf
          refine ⟨by decide, ?_⟩
          conv => whnf
          refine ⟨Stp, stD, out ++ [a], (by rw [List.map_append]; rfl), fun _ => rfl, by rw [List.length_append]; show out.length + 1 ≤ _; omega, by rw [List.length_append]; show (out.length + 1) * 64 ≤ _; omega, rfl, ?_⟩
          conv => whnf
          rw [e0, en]
          refine ⟨(i + 1, n + 1, i + 1, out ++ [a]), [(0, 2)], [], ?_, hnext _ (by rw [List.length_append]; show out.length + 1 ≤ 400; omega) hP, by show s.length + 1 - (i + 1) < s.length + 1 - i; omega⟩
          repeat' (first | exact trivial | exact .inl (DLe.refl _) | exact .inl (DLe.nil _ _) | (refine .inr ⟨rfl, _, ?_, rfl⟩; rfl) | exact rfl | exact .inl rfl | exact .inr ⟨rfl, rfl, rfl, rfl⟩ | exact Nat.zero_le _ | constructor)
      · replace hP : pLinesS (spl 10 s) 0 [] = ([], ((n : Nat) : Int), 3) := hP
        rw [hP]
        conv => whnf
        exact dle_tup3 (DLe.nil _ _)
  · have h3 := of_decide_eq_false h3
    have hx : i = s.length ∨ s[i]? = some 10 := .inl (by omega)
    conv => whnf
    obtain ⟨hf, R, hP, hnext⟩ := hg.cut (by omega) hx
    refine ⟨⟨by omega, by omega, by omega⟩, ?_⟩
    rw [strB_extract, Int.toNat_natCast, Int.toNat_natCast]
    have hql : ((s.take i).drop f).length = i - f := by rw [List.length_drop, List.length_take]; omega
    have hqb : Byt ((s.take i).drop f) := (hs.take i).drop f
    clear hg hx
    generalize (s.take i).drop f = q at *
    have hnn : n - 1 + 1 = n := by omega
    rw [pLinesS, hnn] at hP
    have hread := rread_fn q hqb (by omega)
    have hre := pReadS_err q
    conv => whnf
    refine Fork.intro (fun h4 => ?_) (fun h4 => ?_)
    rotate_left
    · have h4 := (str_ne hqb .nil h4).2 rfl
      subst h4
      replace hP : pLinesS (spl 10 s) 0 [] = pLinesS R n out := hP
      conv => whnf
      rw [e0, en]
      refine ⟨(i + 1, n + 1, i + 1, out), [], [], ?_, hnext _ g2 hP, by show s.length + 1 - (i + 1) < s.length + 1 - i; omega⟩
      repeat' (first | exact trivial | exact .inl (DLe.refl _) | exact .inl (DLe.nil _ _) | (refine .inr ⟨rfl, _, ?_, rfl⟩; rfl) | exact rfl | exact .inl rfl | exact .inr ⟨rfl, rfl, rfl, rfl⟩ | exact Nat.zero_le _ | constructor)
    have h4 := (str_ne hqb .nil h4).1 rfl
    obtain ⟨c, r, hcr⟩ : ∃ c r, q = c :: r := by
      cases q with
      | nil => exact absurd rfl h4
      | cons c r => exact ⟨c, r, rfl⟩
    have hget : ∀ b, (strB q)[0]? = some b → b.toNat = c := fun b hb => by
      have := strB_get hqb hb
      rw [hcr] at this
      injection this with this
      exact this.symm
    have hsk : skipL q = decide (c = 35) := by rw [hcr]; rfl
    have hsz2 : 0 < (strB q).size := by rw [strB_size, hcr]; exact Nat.succ_pos _
    rw [hsk] at hP
    conv => whnf
    refine ⟨⟨by decide, by omega⟩, fun b hb => ?_⟩
    rw [hget b hb]
    clear hb hget hcr hsk
    conv => whnf
    refine Fork.intro (fun h6 => ?_) (fun h6 => ?_)
    rotate_left
    · have h6 : c = 35 := by have := (not_dec h6).2 rfl; omega
      rw [decide_eq_true h6] at hP
      replace hP : pLinesS (spl 10 s) 0 [] = pLinesS R n out := hP
      conv => whnf
      rw [e0, en]
      refine ⟨(i + 1, n + 1, i + 1, out), [], [], ?_, hnext _ g2 hP, by show s.length + 1 - (i + 1) < s.length + 1 - i; omega⟩
      repeat' (first | exact trivial | exact .inl (DLe.refl _) | exact .inl (DLe.nil _ _) | (refine .inr ⟨rfl, _, ?_, rfl⟩; rfl) | exact rfl | exact .inl rfl | exact .inr ⟨rfl, rfl, rfl, rfl⟩ | exact Nat.zero_le _ | constructor)
    have h6 : ¬ c = 35 := by have := (not_dec h6).1 rfl; omega
    rw [decide_eq_false h6] at hP
    dsimp only at hP
    generalize pReadS q = rr at *
    obtain ⟨a, re⟩ := rr
    dsimp only at hre hP hread
    conv => whnf
    refine CallVC.pure hread rfl ?_
    rintro _ rfl
    conv => whnf
    rcases hre with rfl | rfl
    · rw [decide_eq_true rfl] at hP
      dsimp only at hP
      conv => whnf
      refine Fork.intro (fun h7 => ?_) (fun h7 => ?_)
      · have h7 : out.length = 400 := by have := of_decide_eq_true h7; omega
        rw [decide_eq_true h7] at hP
        replace hP : pLinesS (spl 10 s) 0 [] = ([], ((n : Nat) : Int), 14) := hP
        rw [hP]
        conv => whnf
        exact dle_tup3 (DLe.nil _ _)
      · have h7 : ¬ out.length = 400 := by have := of_decide_eq_false h7; omega
        rw [decide_eq_false h7] at hP
        replace hP : pLinesS (spl 10 s) 0 [] = pLinesS R n (out ++ [a]) := hP
        conv => whnf
        refine ⟨by decide, ?_⟩
        conv => whnf
        refine ⟨Stp, stD, out ++ [a], (by rw [List.map_append]; rfl), fun _ => rfl, by rw [List.length_append]; show out.length + 1 ≤ _; omega, by rw [List.length_append]; show (out.length + 1) * 64 ≤ _; omega, rfl, ?_⟩
        conv => whnf
        rw [e0, en]
        refine ⟨(i + 1, n + 1, i + 1, out ++ [a]), [(0, 2)], [], ?_, hnext _ (by rw [List.length_append]; show out.length + 1 ≤ 400; omega) hP, by show s.length + 1 - (i + 1) < s.length + 1 - i; omega⟩
        repeat' (first | exact trivial | exact .inl (DLe.refl _) | exact .inl (DLe.nil _ _) | (refine .inr ⟨rfl, _, ?_, rfl⟩; rfl) | exact rfl | exact .inl rfl | exact .inr ⟨rfl, rfl, rfl, rfl⟩ | exact Nat.zero_le _ | constructor)
    · replace hP : pLinesS (spl 10 s) 0 [] = ([], ((n : Nat) : Int), 3) := hP
      rw [hP]
      conv => whnf
      exact dle_tup3 (DLe.nil _ _)
theorem rparse_fn (s : List Nat) (hs : Byt s) (hl : s.length ≤ 900000) : Fn Tryz.prog 17 [strD s] fun d => d = parseD (parseS s) := Fn.exact (rparse0_fn s hs hl)

/-! ### Same -/
theorem sameS_fn (a : List Stp) (hl : a.length ≤ 1000000) (hf : ∀ x, x ∈ a → x.frame.length ≤ 1000000) : Fn Tryz.prog 18 [rowsS a, rowsS a] fun d => d = boolD true := by
  refine fnOf [] Tryz.func18 rfl (by kernel_rfl) (Nat.le_of_ble_eq_true rfl) ?_
  have hone : ∀ x, x ∈ a → Fn Tryz.prog 11 [.agg (stD x), .agg (stD x)] fun d => d = boolD true := fun x hx => by
    have := one_fn x x (hf x hx) (hf x hx)
    rwa [decide_eq_true rfl] at this
  clear hf
  conv => whnf
  refine Fork.intro (fun h => absurd rfl ((not_dec h).1 rfl)) (fun _ => ?_)
  conv => whnf
  refine ⟨Nat, fun k => ⟨[(5, intD k), (1, rowsS a), (0, rowsS a)], [], 0, ([], 0)⟩, fun k => k ≤ a.length, fun k => a.length - k, ⟨0, [], [], ?_, Nat.zero_le _⟩, ?_⟩
  · repeat' (first | exact trivial | exact .inl (DLe.refl _) | exact .inl (DLe.nil _ _) | (refine .inr ⟨rfl, _, ?_, rfl⟩; rfl) | exact rfl | exact .inl rfl | exact .inr ⟨rfl, rfl, rfl, rfl⟩ | exact Nat.zero_le _ | constructor)
  intro k hk
  replace hk : k ≤ a.length := hk
  have e0 := wrap_nx (n := k) (by omega)
  conv => whnf
  refine Fork.intro (fun h1 => ?_) (fun h1 => ?_)
  · have h1 := of_decide_eq_true h1
    conv => whnf
    refine ⟨rfl, ⟨by omega, by omega⟩, fun x hx => ?_⟩
    have hx : a[k]? = some x := hx
    conv => whnf
    refine ⟨rfl, ⟨by omega, by omega⟩, fun y hy => ?_⟩
    obtain rfl : x = y := Option.some.inj (hx.symm.trans (show a[k]? = some y from hy))
    have h9 := hone x (List.mem_of_getElem? hx)
    conv => whnf
    refine CallVC.pure h9 rfl ?_
    rintro _ rfl
    conv => whnf
    rw [e0]
    refine ⟨k + 1, [], [], ?_, by show k + 1 ≤ a.length; omega, by show a.length - (k + 1) < a.length - k; omega⟩
    repeat' (first | exact trivial | exact .inl (DLe.refl _) | exact .inl (DLe.nil _ _) | (refine .inr ⟨rfl, _, ?_, rfl⟩; rfl) | exact rfl | exact .inl rfl | exact .inr ⟨rfl, rfl, rfl, rfl⟩ | exact Nat.zero_le _ | constructor)
  · conv => whnf
end Go.Proofs.YtbjhkhhbdlnfbaaGreatDoor.V
namespace Go.Proofs.YtbjhkhhbdlnfbaaGreatDoor.V
open Go.RowKit
attribute [local irreducible] Fn FnN OpVC DLe

theorem len_nl {x : List Nat} (h : x.length ≤ 100000) : (((strB x).size + ({ data := #[10] } : ByteArray).size : Nat) : Int) ≤ 9223372036854775807 := cat_le (a := x) (b := [10]) rfl rfl (by simp; omega)
theorem catS_take {l : List Stp} {k : Nat} {a : Stp} (h : l[k]? = some a) : catS (l.take (k + 1)) = catS (l.take k) ++ (lineS a ++ [10]) := by
  rw [List.take_add_one, h, catS_app]
  show _ ++ ((lineS a ++ [10]) ++ catS []) = _
  rw [catS, List.append_nil]
theorem may_take {l : List Stp} {k : Nat} {a : Stp} (h : l[k]? = some a) (hm : MayS a) (ha : ∀ x, x ∈ l.take k → MayS x) : ∀ x, x ∈ l.take (k + 1) → MayS x := by
  intro x hx
  rw [List.take_add_one, h] at hx
  rcases List.mem_append.1 hx with hx | hx
  · exact ha x hx
  · obtain rfl : x = a := by simpa using hx
    exact hm
theorem catS_take_len {l : List Stp} (h : ∀ a, a ∈ l → a.ok) (k : Nat) : (catS (l.take k)).length ≤ 4001 * l.length := by
  have h1 := catS_len (l := l.take k) fun a ha => h a (List.mem_of_mem_take ha)
  have h2 : (l.take k).length ≤ l.length := by rw [List.length_take]; omega
  have := Nat.mul_le_mul_left 4001 h2
  omega
theorem textS_no {l : List Stp} {a : Stp} (ha : a ∈ l) (h : maySB a = false) : textS l = ([], 2) := by
  unfold textS
  rw [allMay_no ha (of_decide_eq_false h)]
theorem textS_big {l : List Stp} (ha : ∀ x, x ∈ l → MayS x) (h : 400 < l.length) : textS l = ([], 14) := by
  unfold textS
  rw [allMay_iff.2 ha, decide_eq_true h]
theorem textS_fit {l : List Stp} (ha : ∀ x, x ∈ l → MayS x) (h : ¬ 400 < l.length) : textS l = (catS l, 0) := by
  unfold textS
  rw [allMay_iff.2 ha, decide_eq_false h]
abbrev textD (r : List Nat × Int) : D := .tup [strD r.1, intD r.2]
def bc : Nat → D
  | 0 => .v (.pointer none)
  | _ + 1 => .loc 0 0

set_option maxHeartbeats 4000000 in
theorem stext_fn (l : List Stp) (hl : l.length ≤ 1000) (ok : ∀ a, a ∈ l → a.ok) : Fn Tryz.prog 14 [rowsS l] fun d => d = textD (textS l) := by
  refine fnOf [] Tryz.func14 rfl (by kernel_rfl) (Nat.le_of_ble_eq_true rfl) ?_
  cases l with
  | nil =>
    conv => whnf
    refine ⟨Unit, fun _ => ⟨[(9, intD 0), (8, intD 0), (7, rowsS []), (4, .loc 0 0), (0, rowsS [])], [(0, .cells bldT [.v (.pointer none), .v (.slice none 0 0)])], 1, ([], 0)⟩, fun _ => True, fun _ => 0, ⟨(), [], [], ?_, trivial⟩, fun _ _ => ?_⟩
    · repeat' (first | exact trivial | exact .inl (DLe.refl _) | exact .inl (DLe.nil _ _) | (refine .inr ⟨rfl, _, ?_, rfl⟩; rfl) | exact rfl | exact .inl rfl | exact .inr ⟨rfl, rfl, rfl, rfl⟩ | exact Nat.zero_le _ | constructor)
    conv => whnf
    refine goIn [(1, [0, 1, 2, 3, 5, 6, 7, 8, 9, 4, 10, 11])] Tryz.func41 rfl (by kernel_rfl) (Nat.le_of_ble_eq_true rfl) ?_
    conv => whnf
    refine op_unsafeDataNil rfl rfl ?_
    conv => whnf
    refine op_unsafeStringNil rfl rfl rfl ?_
    conv => whnf
    rfl
  | cons a0 l0 =>
  generalize hLL : a0 :: l0 = l at *
  have hl0 : l.length = l0.length + 1 := by rw [← hLL]; rfl
  have hcl := catS_take_len ok
  have hpos : 0 < (catS l).length := by rw [← hLL, catS, List.length_append, List.length_append, List.length_singleton]; omega
  have hno := @textS_no l
  have hbig := @textS_big l
  have hfit := @textS_fit l
  generalize textS l = R at *
  conv => whnf
  refine ⟨Nat, fun k => ⟨[(9, intD k), (8, intD l.length), (7, rowsS l), (4, .loc 0 0), (0, rowsS l)], [(0, .cells bldT [bc k, .grow 1]), (1, .grow Int 5 1 encB (bytesI (strB (catS (l.take k)))))], 2, ([], 0)⟩, fun k => k ≤ l.length ∧ ∀ x, x ∈ l.take k → MayS x, fun k => l.length - k, ⟨0, [], [1], ?_, Nat.zero_le _, fun x hx => (by cases hx)⟩, ?_⟩
  · repeat' (first | exact trivial | exact .inl (DLe.refl _) | exact .inl (DLe.nil _ _) | (refine .inr ⟨rfl, _, ?_, rfl⟩; rfl) | exact rfl | exact .inl rfl | exact .inr ⟨rfl, rfl, rfl, rfl⟩ | exact Nat.zero_le _ | constructor)
  rintro k ⟨hk, hmk⟩
  have e0 := wrap_nx (n := k) (by omega)
  have hbc : bc k = .v (.pointer none) ∨ bc k = .loc 0 0 := by cases k with | zero => exact .inl rfl | succ k => exact .inr rfl
  have hlk := hcl k
  conv => whnf
  refine Fork.intro (fun h1 => ?_) (fun h1 => ?_)
  · have h1 := of_decide_eq_true h1
    conv => whnf
    refine ⟨rfl, ⟨by omega, h1⟩, fun a hx => ?_⟩
    have hx : l[k]? = some a := hx
    have hmem := List.mem_of_getElem? hx
    have hok := ok a hmem
    have hst := catS_take hx
    have hln := lineP_fn a hok
    have hmy := mayP_fn a
    have hlen := lineS_len hok
    have hno := hno hmem
    have hmt := fun h => may_take hx h hmk
    have hms : maySB a = true → MayS a := fun h => of_decide_eq_true h
    generalize maySB a = mb at *
    conv => whnf
    refine CallVC.pure hmy rfl ?_
    rintro _ rfl
    cases mb with
    | false =>
      rw [hno rfl]
      conv => whnf
      rfl
    | true =>
      have hmn := hmt (hms rfl)
      conv => whnf
      refine CallVC.pure hln rfl ?_
      rintro _ rfl
      conv => whnf
      refine ⟨len_nl (by omega), ?_⟩
      rw [catR (w := [10]) (b := ⟨#[10]⟩) rfl]
      conv => whnf
      refine goIn [] Tryz.func40 rfl (by kernel_rfl) (Nat.le_of_ble_eq_true rfl) ?_
      conv => whnf
      refine copyCheck_vc (id := 0) rfl hbc ?_
      conv => whnf
      refine op_appendStr (old := bytesI (strB (catS (l.take k)))) (L := bytesI (strB (catS (l.take k) ++ (lineS a ++ [10])))) ttH rfl rfl rfl rfl rfl rfl byteZero (bytesI_str _ _) (by rw [strB_size]; simp) (by rw [bytesI_len, strB_size]; simp only [List.length_append, List.length_cons, List.length_nil]; omega) ?_
      conv => whnf
      rw [e0]
      refine ⟨k + 1, [(1, 3)], [], ?_, ⟨by show k + 1 ≤ l.length; omega, hmn⟩, by show l.length - (k + 1) < l.length - k; omega⟩
      rw [← hst]
      repeat' (first | exact trivial | exact .inl (DLe.refl _) | exact .inl (DLe.nil _ _) | (refine .inr ⟨rfl, _, ?_, rfl⟩; rfl) | exact rfl | exact .inl rfl | exact .inr ⟨rfl, rfl, rfl, rfl⟩ | exact Nat.zero_le _ | constructor)
  · have h1 := of_decide_eq_false h1
    obtain rfl : k = l.length := by omega
    rw [List.take_length] at hmk hlk
    clear hbc
    rw [List.take_length, show bc l.length = .loc 0 0 from by rw [hl0]; rfl]
    have hbig := hbig hmk
    have hfit := hfit hmk
    conv => whnf
    refine Fork.intro (fun h2 => ?_) (fun h2 => ?_)
    · have h2 := of_decide_eq_true h2
      rw [hbig (by omega)]
      conv => whnf
      rfl
    · have h2 := of_decide_eq_false h2
      rw [hfit (by omega)]
      conv => whnf
      refine goIn [(1, [0, 1, 2, 3, 5, 6, 7, 8, 9, 4, 10, 11])] Tryz.func41 rfl (by kernel_rfl) (Nat.le_of_ble_eq_true rfl) ?_
      conv => whnf
      refine op_unsafeData (L := bytesI (strB (catS l))) rfl rfl rfl (by rw [bytesI_len, strB_size]; exact hpos) ?_
      conv => whnf
      refine op_unsafeString (el := 5) (b := strB (catS l)) rfl rfl rfl rfl (by rw [strB_size]; exact hpos) (by kernel_rfl) (by kernel_rfl) ?_
      conv => whnf
      rfl

set_option maxHeartbeats 2000000 in
theorem srtext_fn (l : List Stp) (hl : l.length ≤ 1000) (ok : ∀ a, a ∈ l → a.ok) : Fn Tryz.prog 15 [rowsS l] fun d => d = textD (textS l) := by
  refine fnOf [] Tryz.func15 rfl (by kernel_rfl) (Nat.le_of_ble_eq_true rfl) ?_
  have hcl := catS_take_len ok
  have hno := @textS_no l
  have hbig := @textS_big l
  have hfit := @textS_fit l
  generalize textS l = R at *
  conv => whnf
  refine ⟨Nat, fun k => ⟨[(5, intD k), (4, strD (catS (l.take k))), (0, rowsS l)], [], 0, ([], 0)⟩, fun k => k ≤ l.length ∧ ∀ x, x ∈ l.take k → MayS x, fun k => l.length - k, ⟨0, [], [], ?_, Nat.zero_le _, fun x hx => (by cases hx)⟩, ?_⟩
  · repeat' (first | exact trivial | exact .inl (DLe.refl _) | exact .inl (DLe.nil _ _) | (refine .inr ⟨rfl, _, ?_, rfl⟩; rfl) | exact rfl | exact .inl rfl | exact .inr ⟨rfl, rfl, rfl, rfl⟩ | exact Nat.zero_le _ | constructor)
  rintro k ⟨hk, hmk⟩
  have e0 := wrap_nx (n := k) (by omega)
  have hlk := hcl k
  conv => whnf
  refine Fork.intro (fun h1 => ?_) (fun h1 => ?_)
  · have h1 := of_decide_eq_true h1
    conv => whnf
    refine ⟨rfl, ⟨by omega, h1⟩, fun a hx => ?_⟩
    have hx : l[k]? = some a := hx
    have hmem := List.mem_of_getElem? hx
    have hok := ok a hmem
    have hst := catS_take hx
    have hln := lineR_fn a hok
    have hmy := mayR_fn a
    have hlen := lineS_len hok
    have hno := hno hmem
    have hmt := fun h => may_take hx h hmk
    have hms : maySB a = true → MayS a := fun h => of_decide_eq_true h
    generalize maySB a = mb at *
    conv => whnf
    refine CallVC.pure hmy rfl ?_
    rintro _ rfl
    cases mb with
    | false =>
      rw [hno rfl]
      conv => whnf
      rfl
    | true =>
      have hmn := hmt (hms rfl)
      conv => whnf
      refine ⟨rfl, ⟨by omega, h1⟩, fun b hy => ?_⟩
      obtain rfl : a = b := Option.some.inj (hx.symm.trans (show l[k]? = some b from hy))
      clear hy
      conv => whnf
      refine CallVC.pure hln rfl ?_
      rintro _ rfl
      conv => whnf
      refine ⟨str_le (by omega), ?_⟩
      rw [strB_append]
      conv => whnf
      refine ⟨cat_le (a := catS (l.take k) ++ lineS a) (b := [10]) rfl rfl (by simp; omega), ?_⟩
      rw [catR (w := [10]) (b := ⟨#[10]⟩) rfl]
      conv => whnf
      rw [e0, List.append_assoc, ← hst]
      refine ⟨k + 1, [], [], ?_, ⟨by show k + 1 ≤ l.length; omega, hmn⟩, by show l.length - (k + 1) < l.length - k; omega⟩
      repeat' (first | exact trivial | exact .inl (DLe.refl _) | exact .inl (DLe.nil _ _) | (refine .inr ⟨rfl, _, ?_, rfl⟩; rfl) | exact rfl | exact .inl rfl | exact .inr ⟨rfl, rfl, rfl, rfl⟩ | exact Nat.zero_le _ | constructor)
  · have h1 := of_decide_eq_false h1
    obtain rfl : k = l.length := by omega
    rw [List.take_length] at hmk
    rw [List.take_length]
    have hbig := hbig hmk
    have hfit := hfit hmk
    conv => whnf
    refine Fork.intro (fun h2 => ?_) (fun h2 => ?_)
    · have h2 := of_decide_eq_true h2
      rw [hbig (by omega)]
      conv => whnf
      rfl
    · have h2 := of_decide_eq_false h2
      rw [hfit (by omega)]
      conv => whnf
      rfl
end Go.Proofs.YtbjhkhhbdlnfbaaGreatDoor.V
namespace Go.Proofs.YtbjhkhhbdlnfbaaGreatDoor.V
open Go.RowKit
attribute [local irreducible] Fn FnN OpVC DLe

theorem lineS_len2 {a : Stp} (ok : a.ok) (hf : a.frame.length ≤ 200) : (lineS a).length ≤ 499 := by
  by_cases h : MayS a
  · rw [lineS_may h]
    obtain ⟨kind, nic, num, frame, lo, hi⟩ := a
    obtain ⟨h1, h2, h3, h4, _⟩ := h
    dsimp only at *
    have ln : (dgI nic).length ≤ 10 := dgs_len 9 nic.toNat (by omega)
    have lm : (dgI num).length ≤ 10 := dgs_len 9 num.toNat (by omega)
    have lf := frameT_len frame
    have l1 := halfT_len lo; have l2 := halfT_len hi
    rcases k5_cases h1 with rfl | rfl | rfl | rfl | rfl
    · show (wFrame ++ 32 :: (dgI nic ++ 32 :: frameT frame)).length ≤ _
      simp only [List.length_append, List.length_cons, wFrame, List.length_nil]; omega
    · show (wPoll ++ 32 :: (dgI nic ++ 32 :: dgI num)).length ≤ _
      simp only [List.length_append, List.length_cons, wPoll, List.length_nil]; omega
    · show (wDone ++ 32 :: (dgI nic ++ 32 :: dgI num)).length ≤ _
      simp only [List.length_append, List.length_cons, wDone, List.length_nil]; omega
    · show (wTick ++ 32 :: dgI num).length ≤ _
      simp only [List.length_append, List.length_cons, wTick, List.length_nil]; omega
    · show (wSecret ++ 32 :: (halfT lo ++ 32 :: halfT hi)).length ≤ _
      simp only [List.length_append, List.length_cons, wSecret, List.length_nil]; omega
  · rw [lineS_no h]; exact Nat.zero_le _
theorem catS_len2 : ∀ {l : List Stp}, (∀ a, a ∈ l → a.ok) → (∀ a, a ∈ l → a.frame.length ≤ 200) → (catS l).length ≤ 500 * l.length
  | [], _, _ => by simp [catS]
  | a :: l, h, hf => by
    have h1 := lineS_len2 (h a List.mem_cons_self) (hf a List.mem_cons_self)
    have h2 := catS_len2 (fun x hx => h x (List.mem_cons_of_mem _ hx)) fun x hx => hf x (List.mem_cons_of_mem _ hx)
    rw [catS]
    simp only [List.length_append, List.length_cons, List.length_nil]
    omega
theorem textS_ok {l : List Stp} (h : ∀ a, a ∈ l → a.ok) (hf : ∀ a, a ∈ l → a.frame.length ≤ 200) (hl : l.length ≤ 410) : Byt (textS l).1 ∧ (textS l).1.length ≤ 900000 := by
  have h1 := catS_byt h
  have h2 := catS_len2 h hf
  unfold textS
  split
  · split
    · exact ⟨.nil, Nat.zero_le _⟩
    · exact ⟨h1, by show (catS l).length ≤ _; omega⟩
  · exact ⟨.nil, Nat.zero_le _⟩
theorem parseS_frame (s : List Nat) : ∀ x, x ∈ (parseS s).1 → x.frame.length ≤ 1600 := by
  have key : ∀ (L : List (List Nat)) (i : Nat) (out : List Stp), (∀ x, x ∈ out → x.frame.length ≤ 1600) → ∀ x, x ∈ (pLinesS L i out).1 → x.frame.length ≤ 1600 := by
    intro L
    induction L with
    | nil => intro i out h; exact h
    | cons q r ih =>
      intro i out h
      rw [pLinesS]
      split
      · exact ih _ _ h
      · split
        · split
          · intro x hx; cases hx
          · refine ih _ _ fun x hx => ?_
            rcases List.mem_append.1 hx with hx | hx
            · exact h x hx
            · obtain rfl := List.mem_singleton.1 hx
              exact pReadS_frame q
        · intro x hx; cases hx
  exact key _ _ _ fun x hx => by cases hx
set_option maxHeartbeats 4000000 in
theorem scriptTexts_fn (hlv : Fn Tryz.prog 13 [] fun d => d = boolD true) (l : List Stp) (ok : ∀ a, a ∈ l → a.ok) (s : List Nat) (hs : Byt s) : Fn Tryz.prog 4 [rowsS l, strD s] fun d => d = boolD true := by
  refine fnOf [] Tryz.func4 rfl (by kernel_rfl) (Nat.le_of_ble_eq_true rfl) ?_
  have hsh := shortS_fn s 4000
  have hsl : (s.take 4000).length ≤ 900000 := by rw [List.length_take]; omega
  have h1 := parse_fn _ (hs.take 4000) hsl
  have h2 := rparse_fn _ (hs.take 4000) hsl
  have hpo := parseS_ok (s.take 4000)
  have hpf := parseS_frame (s.take 4000)
  generalize s.take 4000 = s2 at *
  have hsame := sameS_fn (parseS s2).1 (by have := hpo.2; omega) fun x hx => by have := hpf x hx; omega
  clear hpo hpf
  generalize parseS s2 = r at *
  obtain ⟨x, at_, g⟩ := r
  dsimp only at *
  conv => whnf
  refine Fork.intro (fun h => ?_) (fun h => ?_)
  · have h := of_decide_eq_true h
    conv => whnf
    refine ⟨rfl, ⟨by decide, by decide, by omega⟩, ?_⟩
    conv => whnf
    rw [show (l.take (410 : Int).toNat).drop ((0 : Nat) : Int).toNat = l.take 410 from rfl]
    have hok : ∀ a, a ∈ l.take 410 → a.ok := fun a ha => ok a (List.mem_of_mem_take ha)
    have hlen : (l.take 410).length ≤ 410 := by rw [List.length_take]; omega
    clear h
    generalize l.take 410 = l2 at *
    refine ⟨Nat, fun k => ⟨[(5, intD k), (1, strD s), (0, rowsS l2)], [], 0, ([], 0)⟩, fun k => k ≤ l2.length ∧ ∀ x, x ∈ l2.take k → x.frame.length ≤ 200, fun k => l2.length - k, ⟨0, [], [], ?_, Nat.zero_le _, fun x hx => (by cases hx)⟩, ?_⟩
    · repeat' (first | exact trivial | exact .inl (DLe.refl _) | exact .inl (DLe.nil _ _) | (refine .inr ⟨rfl, _, ?_, rfl⟩; rfl) | exact rfl | exact .inl rfl | exact .inr ⟨rfl, rfl, rfl, rfl⟩ | exact Nat.zero_le _ | constructor)
    rintro k ⟨hk, hf⟩
    have e0 := wrap_nx (n := k) (by omega)
    conv => whnf
    refine Fork.intro (fun q1 => ?_) (fun q1 => ?_)
    · have q1 := of_decide_eq_true q1
      conv => whnf
      refine ⟨rfl, ⟨by omega, q1⟩, fun a hx => ?_⟩
      have hx : l2[k]? = some a := hx
      have hnx : a.frame.length ≤ 200 → ∀ x, x ∈ l2.take (k + 1) → x.frame.length ≤ 200 := fun h x hx2 => by
        rw [List.take_add_one, hx] at hx2
        rcases List.mem_append.1 hx2 with hx2 | hx2
        · exact hf x hx2
        · obtain rfl : x = a := by simpa using hx2
          exact h
      conv => whnf
      refine Fork.intro (fun q2 => ?_) (fun q2 => ?_)
      · conv => whnf
        refine CallVC.pure hlv rfl ?_
        rintro _ rfl
        conv => whnf
      · have q2 := of_decide_eq_false q2
        conv => whnf
        rw [e0]
        refine ⟨k + 1, [], [], ?_, ⟨by show k + 1 ≤ l2.length; omega, hnx (by omega)⟩, by show l2.length - (k + 1) < l2.length - k; omega⟩
        repeat' (first | exact trivial | exact .inl (DLe.refl _) | exact .inl (DLe.nil _ _) | (refine .inr ⟨rfl, _, ?_, rfl⟩; rfl) | exact rfl | exact .inl rfl | exact .inr ⟨rfl, rfl, rfl, rfl⟩ | exact Nat.zero_le _ | constructor)
    have q1 := of_decide_eq_false q1
    obtain rfl : k = l2.length := by omega
    rw [List.take_length] at hf
    have h3 := stext_fn l2 (by omega) hok
    have h4 := srtext_fn l2 (by omega) hok
    obtain ⟨htb, htl⟩ := textS_ok hok hf hlen
    have hback := textS_back hok
    have hsame2 := sameS_fn l2 (by omega) fun x hx => by have := hf x hx; omega
    have h5 := parse_fn _ htb htl
    have hb2 : (textS l2).2 = 0 → parseS (textS l2).1 = (l2, 0, 0) := fun h => by rw [(hback h).1]; exact (hback h).2
    clear hback hf
    generalize textS l2 = tt0 at *
    obtain ⟨t, e⟩ := tt0
    dsimp only at *
    conv => whnf
    refine CallVC.pure hsh rfl ?_
    rintro _ rfl
    conv => whnf
    refine CallVC.pure h3 rfl ?_
    rintro _ rfl
    conv => whnf
    refine CallVC.pure h4 rfl ?_
    rintro _ rfl
    conv => whnf
    refine CallVC.pure h1 rfl ?_
    rintro _ rfl
    conv => whnf
    refine CallVC.pure h2 rfl ?_
    rintro _ rfl
    conv => whnf
    refine Fork.intro (fun g => absurd rfl ((str_ne htb htb g).1 rfl)) (fun _ => ?_)
    conv => whnf
    refine Fork.intro (fun g => absurd rfl ((not_dec g).1 rfl)) (fun _ => ?_)
    conv => whnf
    refine CallVC.pure hsame rfl ?_
    rintro _ rfl
    conv => whnf
    refine Fork.intro (fun g => absurd rfl ((not_dec g).1 rfl)) (fun _ => ?_)
    conv => whnf
    refine Fork.intro (fun g => absurd rfl ((not_dec g).1 rfl)) (fun _ => ?_)
    conv => whnf
    refine Fork.intro (fun q3 => ?_) (fun q3 => ?_)
    · conv => whnf
      refine CallVC.pure hlv rfl ?_
      rintro _ rfl
      conv => whnf
    · have q3 := (not_dec q3).2 rfl
      rw [hb2 q3] at h5
      conv => whnf
      refine CallVC.pure h5 rfl ?_
      rintro _ rfl
      conv => whnf
      refine CallVC.pure hsame2 rfl ?_
      rintro _ rfl
      conv => whnf
      refine CallVC.pure hlv rfl ?_
      rintro _ rfl
      conv => whnf
  · have h := of_decide_eq_false h
    have hok := ok
    have hlen : l.length ≤ 410 := by omega
    clear h
    generalize l = l2 at *
    conv => whnf
    refine ⟨Nat, fun k => ⟨[(5, intD k), (1, strD s), (0, rowsS l2)], [], 0, ([], 0)⟩, fun k => k ≤ l2.length ∧ ∀ x, x ∈ l2.take k → x.frame.length ≤ 200, fun k => l2.length - k, ⟨0, [], [], ?_, Nat.zero_le _, fun x hx => (by cases hx)⟩, ?_⟩
    · repeat' (first | exact trivial | exact .inl (DLe.refl _) | exact .inl (DLe.nil _ _) | (refine .inr ⟨rfl, _, ?_, rfl⟩; rfl) | exact rfl | exact .inl rfl | exact .inr ⟨rfl, rfl, rfl, rfl⟩ | exact Nat.zero_le _ | constructor)
    rintro k ⟨hk, hf⟩
    have e0 := wrap_nx (n := k) (by omega)
    conv => whnf
    refine Fork.intro (fun q1 => ?_) (fun q1 => ?_)
    · have q1 := of_decide_eq_true q1
      conv => whnf
      refine ⟨rfl, ⟨by omega, q1⟩, fun a hx => ?_⟩
      have hx : l2[k]? = some a := hx
      have hnx : a.frame.length ≤ 200 → ∀ x, x ∈ l2.take (k + 1) → x.frame.length ≤ 200 := fun h x hx2 => by
        rw [List.take_add_one, hx] at hx2
        rcases List.mem_append.1 hx2 with hx2 | hx2
        · exact hf x hx2
        · obtain rfl : x = a := by simpa using hx2
          exact h
      conv => whnf
      refine Fork.intro (fun q2 => ?_) (fun q2 => ?_)
      · conv => whnf
        refine CallVC.pure hlv rfl ?_
        rintro _ rfl
        conv => whnf
      · have q2 := of_decide_eq_false q2
        conv => whnf
        rw [e0]
        refine ⟨k + 1, [], [], ?_, ⟨by show k + 1 ≤ l2.length; omega, hnx (by omega)⟩, by show l2.length - (k + 1) < l2.length - k; omega⟩
        repeat' (first | exact trivial | exact .inl (DLe.refl _) | exact .inl (DLe.nil _ _) | (refine .inr ⟨rfl, _, ?_, rfl⟩; rfl) | exact rfl | exact .inl rfl | exact .inr ⟨rfl, rfl, rfl, rfl⟩ | exact Nat.zero_le _ | constructor)
    have q1 := of_decide_eq_false q1
    obtain rfl : k = l2.length := by omega
    rw [List.take_length] at hf
    have h3 := stext_fn l2 (by omega) hok
    have h4 := srtext_fn l2 (by omega) hok
    obtain ⟨htb, htl⟩ := textS_ok hok hf hlen
    have hback := textS_back hok
    have hsame2 := sameS_fn l2 (by omega) fun x hx => by have := hf x hx; omega
    have h5 := parse_fn _ htb htl
    have hb2 : (textS l2).2 = 0 → parseS (textS l2).1 = (l2, 0, 0) := fun h => by rw [(hback h).1]; exact (hback h).2
    clear hback hf
    generalize textS l2 = tt0 at *
    obtain ⟨t, e⟩ := tt0
    dsimp only at *
    conv => whnf
    refine CallVC.pure hsh rfl ?_
    rintro _ rfl
    conv => whnf
    refine CallVC.pure h3 rfl ?_
    rintro _ rfl
    conv => whnf
    refine CallVC.pure h4 rfl ?_
    rintro _ rfl
    conv => whnf
    refine CallVC.pure h1 rfl ?_
    rintro _ rfl
    conv => whnf
    refine CallVC.pure h2 rfl ?_
    rintro _ rfl
    conv => whnf
    refine Fork.intro (fun g => absurd rfl ((str_ne htb htb g).1 rfl)) (fun _ => ?_)
    conv => whnf
    refine Fork.intro (fun g => absurd rfl ((not_dec g).1 rfl)) (fun _ => ?_)
    conv => whnf
    refine CallVC.pure hsame rfl ?_
    rintro _ rfl
    conv => whnf
    refine Fork.intro (fun g => absurd rfl ((not_dec g).1 rfl)) (fun _ => ?_)
    conv => whnf
    refine Fork.intro (fun g => absurd rfl ((not_dec g).1 rfl)) (fun _ => ?_)
    conv => whnf
    refine Fork.intro (fun q3 => ?_) (fun q3 => ?_)
    · conv => whnf
      refine CallVC.pure hlv rfl ?_
      rintro _ rfl
      conv => whnf
    · have q3 := (not_dec q3).2 rfl
      rw [hb2 q3] at h5
      conv => whnf
      refine CallVC.pure h5 rfl ?_
      rintro _ rfl
      conv => whnf
      refine CallVC.pure hsame2 rfl ?_
      rintro _ rfl
      conv => whnf
      refine CallVC.pure hlv rfl ?_
      rintro _ rfl
      conv => whnf
end Go.Proofs.YtbjhkhhbdlnfbaaGreatDoor.V
