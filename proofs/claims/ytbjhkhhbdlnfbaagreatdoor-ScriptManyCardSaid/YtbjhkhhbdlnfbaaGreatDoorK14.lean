/-
  Lines read as steps, by the program, by value. Conditions: a text of bytes, not too long.
  Steps as lines, by the program and by the document, and the law ScriptTexts where lives is true, by value. Conditions: numbers of their types, a text of bytes.
-/
import Derived.Test.YtbjhkhhbdlnfbaaGreatDoorK6
import Derived.Test.YtbjhkhhbdlnfbaaGreatDoorK13
namespace Go.Proofs.YtbjhkhhbdlnfbaaGreatDoor.V
open Go.RowKit

theorem dle_tup3 {x y a b : D} (h : DLe x y) : DLe (.tup [x, a, b]) (.tup [y, a, b]) := fun C v hv => by
  cases hv with
  | tup hs hh =>
    refine .tup hs fun j d u hd hu => ?_
    match j, hd with
    | 0, hd => injection hd with hd; subst hd; exact h _ _ (hh 0 x u rfl hu)
    | j + 1, hd => exact hh (j + 1) d u hd hu
abbrev parseD (r : List Stp × Int × Int) : D := .tup [rowsS r.1, intD r.2.1, intD r.2.2]
attribute [local irreducible] Fn FnN OpVC DLe

theorem pLinesS_next {l : List (List Nat)} {k : Nat} {q : List Nat} {out : List Stp} {P : List Stp × Int × Int} (hq : l[k]? = some q) (h : P = pLinesS (l.drop k) k out) : P = match skipL q with
    | true => pLinesS (l.drop (k + 1)) (k + 1) out
    | false => match decide ((pReadS q).2 = 0) with
      | true => match decide (out.length = 400) with
        | true => ([], (k + 1 : Nat), 14)
        | false => pLinesS (l.drop (k + 1)) (k + 1) (out ++ [(pReadS q).1])
      | false => ([], (k + 1 : Nat), (pReadS q).2) := by
  have hk := (List.getElem?_eq_some_iff.1 hq).1
  have e : l.drop k = q :: l.drop (k + 1) := by
    rw [List.drop_eq_getElem_cons hk]
    congr 1
    rw [List.getElem?_eq_getElem hk] at hq
    injection hq
  rw [h, e, pLinesS]
  rfl
set_option maxHeartbeats 4000000 in
theorem parse0_fn (s : List Nat) (hs : Byt s) (hl : s.length ≤ 900000) : Fn Tryz.prog 16 [strD s] fun d => DLe d (parseD (parseS s)) := by
  refine fnOf [] Tryz.func16 rfl (by kernel_rfl) (Nat.le_of_ble_eq_true rfl) ?_
  have hsl : (spl 10 s).length ≤ s.length + 1 := splB_len _ s
  have hsb : ∀ q, q ∈ spl 10 s → Byt q ∧ q.length ≤ s.length := fun q hq => ⟨splB_byt hs hq, (splB_mem _ s q hq).1⟩
  unfold parseS
  conv => whnf
  refine split_vc (c := 10) s hs (by omega) (by decide) ?_
  generalize spl 10 s = L at *
  conv => whnf
  refine ⟨Nat × List Stp, fun g => ⟨[(13, intD g.1), (12, intD L.length), (11, .grow 0), (5, .grow 1)], [(0, .grow (List Nat) 9 1 strE L), (1, .grow Stp 27 6 stD g.2)], 2, ([], 0)⟩,
    fun g => g.1 ≤ L.length ∧ g.2.length ≤ 400 ∧ pLinesS L 0 [] = pLinesS (L.drop g.1) g.1 g.2, fun g => L.length - g.1, ⟨(0, []), [], [1], ?_, Nat.zero_le _, Nat.zero_le _, rfl⟩, ?_⟩
  · repeat' (first | exact trivial | exact .inl (DLe.refl _) | exact .inl (DLe.nil _ _) | (refine .inr ⟨rfl, _, ?_, rfl⟩; rfl) | exact rfl | exact .inl rfl | exact .inr ⟨rfl, rfl, rfl, rfl⟩ | exact Nat.zero_le _ | constructor)
  rintro ⟨k, out⟩ ⟨hk, ho, he⟩
  dsimp only at hk ho he
  dsimp only
  have e0 := wrap_nx (n := k) (by omega)
  conv => whnf
  refine Fork.intro (fun h2 => ?_) (fun h2 => ?_)
  rotate_left
  · have h2 := of_decide_eq_false h2
    obtain rfl : k = L.length := by omega
    rw [List.drop_length, pLinesS] at he
    rw [he]
    conv => whnf
    show DLe (parseD (out, 0, 0)) (parseD (out, 0, 0))
    exact DLe.refl _
  have h2 := of_decide_eq_true h2
  have hlt : k < L.length := by omega
  obtain ⟨q, hq⟩ : ∃ q, L[k]? = some q := ⟨_, List.getElem?_eq_getElem hlt⟩
  have hn := pLinesS_next hq he
  obtain ⟨hqb, hql⟩ := hsb q (List.mem_of_getElem? hq)
  have hread := pread_fn q hqb (by omega)
  have hre := pReadS_err q
  conv => whnf
  refine ⟨rfl, ⟨by omega, by omega⟩, ?_⟩
  conv => whnf
  refine ⟨rfl, hlt, fun x hx => ?_⟩
  obtain rfl : x = q := Option.some.inj ((show L[k]? = some x from hx).symm.trans hq)
  clear hx
  conv => whnf
  refine Fork.intro (fun h3 => ?_) (fun h3 => ?_)
  · have h3 := (str_is hqb .nil h3).1 rfl
    subst h3
    replace hn : pLinesS L 0 [] = pLinesS (L.drop (k + 1)) (k + 1) out := hn
    conv => whnf
    rw [e0]
    refine ⟨(k + 1, out), [], [], ?_, ⟨hlt, ho, hn⟩, by show L.length - (k + 1) < L.length - k; omega⟩
    repeat' (first | exact trivial | exact .inl (DLe.refl _) | exact .inl (DLe.nil _ _) | (refine .inr ⟨rfl, _, ?_, rfl⟩; rfl) | exact rfl | exact .inl rfl | exact .inr ⟨rfl, rfl, rfl, rfl⟩ | exact Nat.zero_le _ | constructor)
  have h3 := (str_is hqb .nil h3).2 rfl
  obtain ⟨c, r, hcr⟩ : ∃ c r, x = c :: r := by
    cases x with
    | nil => exact absurd rfl h3
    | cons c r => exact ⟨c, r, rfl⟩
  have hget : ∀ b, (strB x)[0]? = some b → b.toNat = c := fun b hb => by
    have := strB_get hqb hb
    rw [hcr] at this
    injection this with this
    exact this.symm
  have hsk : skipL x = decide (c = 35) := by rw [hcr]; rfl
  have hsz : 0 < (strB x).size := by rw [strB_size, hcr]; exact Nat.succ_pos _
  rw [hsk] at hn
  conv => whnf
  refine ⟨⟨by decide, by omega⟩, fun b hb => ?_⟩
  rw [hget b hb]
  clear hb hget hcr hsk
  conv => whnf
  refine Fork.intro (fun h4 => ?_) (fun h4 => ?_)
  · have h4 : c = 35 := by have := of_decide_eq_true h4; omega
    rw [decide_eq_true h4] at hn
    replace hn : pLinesS L 0 [] = pLinesS (L.drop (k + 1)) (k + 1) out := hn
    conv => whnf
    rw [e0]
    refine ⟨(k + 1, out), [], [], ?_, ⟨hlt, ho, hn⟩, by show L.length - (k + 1) < L.length - k; omega⟩
    repeat' (first | exact trivial | exact .inl (DLe.refl _) | exact .inl (DLe.nil _ _) | (refine .inr ⟨rfl, _, ?_, rfl⟩; rfl) | exact rfl | exact .inl rfl | exact .inr ⟨rfl, rfl, rfl, rfl⟩ | exact Nat.zero_le _ | constructor)
  have h4 : ¬ c = 35 := by have := of_decide_eq_false h4; omega
  rw [decide_eq_false h4] at hn
  dsimp only at hn
  generalize pReadS x = rr at *
  obtain ⟨a, re⟩ := rr
  dsimp only at hre hn hread
  conv => whnf
  refine CallVC.pure hread rfl ?_
  rintro _ rfl
  conv => whnf
  rcases hre with rfl | rfl
  · rw [decide_eq_true rfl] at hn
    dsimp only at hn
    conv => whnf
    refine Fork.intro (fun h5 => ?_) (fun h5 => ?_)
    · have h5 : out.length = 400 := by have := of_decide_eq_true h5; omega
      rw [decide_eq_true h5] at hn
      have hn : pLinesS L 0 [] = ([], ((k + 1 : Nat) : Int), 14) := hn
      rw [hn]
      conv => whnf
      rw [e0]
      show DLe (.tup [.v (.slice none 0 0), intD ((k + 1 : Nat) : Int), intD 14]) (parseD ([], ((k + 1 : Nat) : Int), 14))
      exact dle_tup3 (DLe.nil _ _)
    · have h5 : ¬ out.length = 400 := by have := of_decide_eq_false h5; omega
      rw [decide_eq_false h5] at hn
      replace hn : pLinesS L 0 [] = pLinesS (L.drop (k + 1)) (k + 1) (out ++ [a]) := hn
      conv => whnf
      refine ⟨by decide, ?_⟩
      conv => whnf
      refine ⟨Stp, stD, out ++ [a], (by rw [List.map_append]; rfl), fun _ => rfl, by rw [List.length_append]; show out.length + 1 ≤ _; omega, by rw [List.length_append]; show (out.length + 1) * 64 ≤ _; omega, rfl, ?_⟩
      conv => whnf
      rw [e0]
      refine ⟨(k + 1, out ++ [a]), [(1, 3)], [], ?_, ⟨hlt, by show (out ++ [a]).length ≤ 400; rw [List.length_append]; show out.length + 1 ≤ 400; omega, hn⟩, by show L.length - (k + 1) < L.length - k; omega⟩
      repeat' (first | exact trivial | exact .inl (DLe.refl _) | exact .inl (DLe.nil _ _) | (refine .inr ⟨rfl, _, ?_, rfl⟩; rfl) | exact rfl | exact .inl rfl | exact .inr ⟨rfl, rfl, rfl, rfl⟩ | exact Nat.zero_le _ | constructor)
  · have hn : pLinesS L 0 [] = ([], ((k + 1 : Nat) : Int), 3) := hn
    rw [hn]
    conv => whnf
    rw [e0]
    show DLe (.tup [.v (.slice none 0 0), intD ((k + 1 : Nat) : Int), intD 3]) (parseD ([], ((k + 1 : Nat) : Int), 3))
    exact dle_tup3 (DLe.nil _ _)
theorem parse_fn (s : List Nat) (hs : Byt s) (hl : s.length ≤ 900000) : Fn Tryz.prog 16 [strD s] fun d => d = parseD (parseS s) := Fn.exact (parse0_fn s hs hl)
end Go.Proofs.YtbjhkhhbdlnfbaaGreatDoor.V
namespace Go.Proofs.YtbjhkhhbdlnfbaaGreatDoor.V
open Go.RowKit
attribute [local irreducible] Fn FnN OpVC DLe

theorem len_nl {x : List Nat} (h : x.length ≤ 100000) : (((strB x).size + ({ data := #[10] } : ByteArray).size : Nat) : Int) ≤ 9223372036854775807 := cat_le (a := x) (b := [10]) rfl rfl (by simp; omega)
theorem catS_take {l : List Stp} {k : Nat} {a : Stp} (h : l[k]? = some a) : catS (l.take (k + 1)) = catS (l.take k) ++ (lineS a ++ [10]) := by
  rw [List.take_add_one, h, catS_app]
  show _ ++ ((lineS a ++ [10]) ++ catS []) = _
  rw [catS, List.append_nil]
theorem may_take {l : List Stp} {k : Nat} {a : Stp} (h : l[k]? = some a) (hm : MayS a) (ha : ∀ x, x ∈ l.take k → MayS x) : ∀ x, x ∈ l.take (k + 1) → MayS x := by
  intro x hx
  rw [List.take_add_one, h] at hx
  rcases List.mem_append.1 hx with hx | hx
  · exact ha x hx
  · obtain rfl : x = a := by simpa using hx
    exact hm
theorem catS_take_len {l : List Stp} (h : ∀ a, a ∈ l → a.ok) (k : Nat) : (catS (l.take k)).length ≤ 4001 * l.length := by
  have h1 := catS_len (l := l.take k) fun a ha => h a (List.mem_of_mem_take ha)
  have h2 : (l.take k).length ≤ l.length := by rw [List.length_take]; omega
  have := Nat.mul_le_mul_left 4001 h2
  omega
theorem textS_no {l : List Stp} {a : Stp} (ha : a ∈ l) (h : maySB a = false) : textS l = ([], 2) := by
  unfold textS
  rw [allMay_no ha (of_decide_eq_false h)]
theorem textS_big {l : List Stp} (ha : ∀ x, x ∈ l → MayS x) (h : 400 < l.length) : textS l = ([], 14) := by
  unfold textS
  rw [allMay_iff.2 ha, decide_eq_true h]
theorem textS_fit {l : List Stp} (ha : ∀ x, x ∈ l → MayS x) (h : ¬ 400 < l.length) : textS l = (catS l, 0) := by
  unfold textS
  rw [allMay_iff.2 ha, decide_eq_false h]
abbrev textD (r : List Nat × Int) : D := .tup [strD r.1, intD r.2]
def bc : Nat → D
  | 0 => .v (.pointer none)
  | _ + 1 => .loc 0 0

set_option maxHeartbeats 4000000 in
theorem stext_fn (l : List Stp) (hl : l.length ≤ 1000) (ok : ∀ a, a ∈ l → a.ok) : Fn Tryz.prog 14 [rowsS l] fun d => d = textD (textS l) := by
  refine fnOf [] Tryz.func14 rfl (by kernel_rfl) (Nat.le_of_ble_eq_true rfl) ?_
  cases l with
  | nil =>
    conv => whnf
    refine ⟨Unit, fun _ => ⟨[(9, intD 0), (8, intD 0), (7, rowsS []), (4, .loc 0 0), (0, rowsS [])], [(0, .cells bldT [.v (.pointer none), .v (.slice none 0 0)])], 1, ([], 0)⟩, fun _ => True, fun _ => 0, ⟨(), [], [], ?_, trivial⟩, fun _ _ => ?_⟩
    · repeat' (first | exact trivial | exact .inl (DLe.refl _) | exact .inl (DLe.nil _ _) | (refine .inr ⟨rfl, _, ?_, rfl⟩; rfl) | exact rfl | exact .inl rfl | exact .inr ⟨rfl, rfl, rfl, rfl⟩ | exact Nat.zero_le _ | constructor)
    conv => whnf
    refine goIn [(1, [0, 1, 2, 3, 5, 6, 7, 8, 9, 4, 10, 11])] Tryz.func41 rfl (by kernel_rfl) (Nat.le_of_ble_eq_true rfl) ?_
    conv => whnf
    refine op_unsafeDataNil rfl rfl ?_
    conv => whnf
    refine op_unsafeStringNil rfl rfl rfl ?_
    conv => whnf
    rfl
  | cons a0 l0 =>
  generalize hLL : a0 :: l0 = l at *
  have hl0 : l.length = l0.length + 1 := by rw [← hLL]; rfl
  have hcl := catS_take_len ok
  have hpos : 0 < (catS l).length := by rw [← hLL, catS, List.length_append, List.length_append, List.length_singleton]; omega
  have hno := @textS_no l
  have hbig := @textS_big l
  have hfit := @textS_fit l
  generalize textS l = R at *
  conv => whnf
  refine ⟨Nat, fun k => ⟨[(9, intD k), (8, intD l.length), (7, rowsS l), (4, .loc 0 0), (0, rowsS l)], [(0, .cells bldT [bc k, .grow 1]), (1, .grow Int 5 1 encB (bytesI (strB (catS (l.take k)))))], 2, ([], 0)⟩, fun k => k ≤ l.length ∧ ∀ x, x ∈ l.take k → MayS x, fun k => l.length - k, ⟨0, [], [1], ?_, Nat.zero_le _, fun x hx => (by cases hx)⟩, ?_⟩
  · repeat' (first | exact trivial | exact .inl (DLe.refl _) | exact .inl (DLe.nil _ _) | (refine .inr ⟨rfl, _, ?_, rfl⟩; rfl) | exact rfl | exact .inl rfl | exact .inr ⟨rfl, rfl, rfl, rfl⟩ | exact Nat.zero_le _ | constructor)
  rintro k ⟨hk, hmk⟩
  have e0 := wrap_nx (n := k) (by omega)
  have hbc : bc k = .v (.pointer none) ∨ bc k = .loc 0 0 := by cases k with | zero => exact .inl rfl | succ k => exact .inr rfl
  have hlk := hcl k
  conv => whnf
  refine Fork.intro (fun h1 => ?_) (fun h1 => ?_)
  · have h1 := of_decide_eq_true h1
    conv => whnf
    refine ⟨rfl, ⟨by omega, h1⟩, fun a hx => ?_⟩
    have hx : l[k]? = some a := hx
    have hmem := List.mem_of_getElem? hx
    have hok := ok a hmem
    have hst := catS_take hx
    have hln := lineP_fn a hok
    have hmy := mayP_fn a
    have hlen := lineS_len hok
    have hno := hno hmem
    have hmt := fun h => may_take hx h hmk
    have hms : maySB a = true → MayS a := fun h => of_decide_eq_true h
    generalize maySB a = mb at *
    conv => whnf
    refine CallVC.pure hmy rfl ?_
    rintro _ rfl
    cases mb with
    | false =>
      rw [hno rfl]
      conv => whnf
      rfl
    | true =>
      have hmn := hmt (hms rfl)
      conv => whnf
      refine CallVC.pure hln rfl ?_
      rintro _ rfl
      conv => whnf
      refine ⟨len_nl (by omega), ?_⟩
      rw [catR (w := [10]) (b := ⟨#[10]⟩) rfl]
      conv => whnf
      refine goIn [] Tryz.func40 rfl (by kernel_rfl) (Nat.le_of_ble_eq_true rfl) ?_
      conv => whnf
      refine copyCheck_vc (id := 0) rfl hbc ?_
      conv => whnf
      refine op_appendStr (old := bytesI (strB (catS (l.take k)))) (L := bytesI (strB (catS (l.take k) ++ (lineS a ++ [10])))) ttH rfl rfl rfl rfl rfl rfl byteZero (bytesI_str _ _) (by rw [strB_size]; simp) (by rw [bytesI_len, strB_size]; simp only [List.length_append, List.length_cons, List.length_nil]; omega) ?_
      conv => whnf
      rw [e0]
      refine ⟨k + 1, [(1, 3)], [], ?_, ⟨by show k + 1 ≤ l.length; omega, hmn⟩, by show l.length - (k + 1) < l.length - k; omega⟩
      rw [← hst]
      repeat' (first | exact trivial | exact .inl (DLe.refl _) | exact .inl (DLe.nil _ _) | (refine .inr ⟨rfl, _, ?_, rfl⟩; rfl) | exact rfl | exact .inl rfl | exact .inr ⟨rfl, rfl, rfl, rfl⟩ | exact Nat.zero_le _ | constructor)
  · have h1 := of_decide_eq_false h1
    obtain rfl : k = l.length := by omega
    rw [List.take_length] at hmk hlk
    clear hbc
    rw [List.take_length, show bc l.length = .loc 0 0 from by rw [hl0]; rfl]
    have hbig := hbig hmk
    have hfit := hfit hmk
    conv => whnf
    refine Fork.intro (fun h2 => ?_) (fun h2 => ?_)
    · have h2 := of_decide_eq_true h2
      rw [hbig (by omega)]
      conv => whnf
      rfl
    · have h2 := of_decide_eq_false h2
      rw [hfit (by omega)]
      conv => whnf
      refine goIn [(1, [0, 1, 2, 3, 5, 6, 7, 8, 9, 4, 10, 11])] Tryz.func41 rfl (by kernel_rfl) (Nat.le_of_ble_eq_true rfl) ?_
      conv => whnf
      refine op_unsafeData (L := bytesI (strB (catS l))) rfl rfl rfl (by rw [bytesI_len, strB_size]; exact hpos) ?_
      conv => whnf
      refine op_unsafeString (el := 5) (b := strB (catS l)) rfl rfl rfl rfl (by rw [strB_size]; exact hpos) (by kernel_rfl) (by kernel_rfl) ?_
      conv => whnf
      rfl

end Go.Proofs.YtbjhkhhbdlnfbaaGreatDoor.V
