/-
  Lines read, by the program and by the document, by value. Conditions: a text of bytes, not too long.
-/
import Derived.Test.YtooaeccmkgockaaGreatDoorJmK
namespace Go.Proofs.YtooaeccmkgockaaGreatDoor.V
open Go.RowKit

theorem dle_tup3 {x y a b : D} (h : DLe x y) : DLe (.tup [x, a, b]) (.tup [y, a, b]) := fun C v hv => by
  cases hv with
  | tup hs hh =>
    refine .tup hs fun j d u hd hu => ?_
    match j, hd with
    | 0, hd => injection hd with hd; subst hd; exact h _ _ (hh 0 x u rfl hu)
    | j + 1, hd => exact hh (j + 1) d u hd hu
theorem dle_tup2 {x y a : D} (h : DLe x y) : DLe (.tup [x, a]) (.tup [y, a]) := fun C v hv => by
  cases hv with
  | tup hs hh =>
    refine .tup hs fun j d u hd hu => ?_
    match j, hd with
    | 0, hd => injection hd with hd; subst hd; exact h _ _ (hh 0 x u rfl hu)
    | j + 1, hd => exact hh (j + 1) d u hd hu
abbrev parseD (r : List Ord × Int × Int) : D := .tup [rowsO r.1, intD r.2.1, intD r.2.2]
attribute [local irreducible] Fn FnN OpVC DLe

theorem pLines_next {l : List (List Nat)} {k : Nat} {q : List Nat} {out : List Ord} {P : List Ord × Int × Int} (hq : l[k]? = some q) (h : P = pLines (l.drop k) k out) : P = match decide (q = []) with
    | true => pLines (l.drop (k + 1)) (k + 1) out
    | false => match decide ((pRead q).2 = 0) with
      | true => pLines (l.drop (k + 1)) (k + 1) (out ++ [{ (pRead q).1 with count := (out.length + 1 : Nat) }])
      | false => ([], (k + 1 : Nat), (pRead q).2) := by
  have hk := (List.getElem?_eq_some_iff.1 hq).1
  have e : l.drop k = q :: l.drop (k + 1) := by
    rw [List.drop_eq_getElem_cons hk]
    congr 1
    rw [List.getElem?_eq_getElem hk] at hq
    injection hq
  rw [h, e, pLines]
  rfl
theorem u64_next {n : Nat} (h : n ≤ 1000000) : IntKind.u64.wrap (IntKind.i64.wrap ((n : Int) + 1)) = ((n + 1 : Nat) : Int) := by
  rw [IntWalk.i64_in _ (by omega), IntWalk.u64_in _ (by omega)]; omega

theorem parseT_big {s : List Nat} (h : 4000 < s.length) : parseT s = ([], 0, 14) := by unfold parseT; rw [decide_eq_true h]
theorem parseT_fit {s : List Nat} (h : ¬ 4000 < s.length) : parseT s = pLines (spl 10 s) 0 [] := by unfold parseT; rw [decide_eq_false h]
set_option maxHeartbeats 2000000 in
theorem parse0_fn (s : List Nat) (hs : Byt s) (hl : s.length ≤ 90000) : Fn Tryz.prog 13 [strD s] fun d => DLe d (parseD (parseT s)) := by
  refine fnOf [] Tryz.func13 rfl (by kernel_rfl) (Nat.le_of_ble_eq_true rfl) ?_
  have hsz : ((strB s).size : Int) = (s.length : Int) := by rw [strB_size]
  have hsl : (spl 10 s).length ≤ s.length + 1 := splB_len _ s
  have hsb : ∀ q, q ∈ spl 10 s → Byt q ∧ q.length ≤ s.length := fun q hq => ⟨splB_byt hs hq, (splB_mem _ s q hq).1⟩
  conv => whnf
  refine Fork.intro (fun h1 => ?_) (fun h1 => ?_)
  · have h1 := of_decide_eq_true h1
    rw [parseT_big (by omega)]
    conv => whnf
    show DLe (.tup [.v (.slice none 0 0), intD 0, intD 14]) (parseD ([], 0, 14))
    exact dle_tup3 (DLe.nil _ _)
  · have h1 := of_decide_eq_false h1
    rw [parseT_fit (by omega)]
    conv => whnf
    refine split_vc (c := 10) s hs (by omega) (by decide) ?_
    generalize spl 10 s = L at *
    conv => whnf
    refine ⟨Nat × List Ord, fun g => ⟨[(16, intD g.1), (15, intD L.length), (14, .grow 0), (5, .grow 1)], [(0, .grow (List Nat) 9 1 strE L), (1, .grow Ord 26 8 ordD g.2)], 2, ([], 0)⟩,
      fun g => g.1 ≤ L.length ∧ g.2.length ≤ g.1 ∧ pLines L 0 [] = pLines (L.drop g.1) g.1 g.2, fun g => L.length - g.1, ⟨(0, []), [], [1], ?_, Nat.zero_le _, Nat.le_refl _, rfl⟩, ?_⟩
    · repeat' (first | exact trivial | exact .inl (DLe.refl _) | exact .inl (DLe.nil _ _) | (refine .inr ⟨rfl, _, ?_, rfl⟩; rfl) | exact rfl | exact Nat.zero_le _ | constructor)
    · rintro ⟨k, out⟩ ⟨hk, ho, he⟩
      dsimp only at hk ho he
      dsimp only
      have e0 : IntKind.i64.wrap ((k : Int) + 1) = ((k + 1 : Nat) : Int) := wrap_next (n := 100002) (by omega) (by decide)
      conv => whnf
      refine Fork.intro (fun h2 => ?_) (fun h2 => ?_)
      · have h2 := of_decide_eq_true h2
        have hlt : k < L.length := by omega
        obtain ⟨q, hq⟩ : ∃ q, L[k]? = some q := ⟨_, List.getElem?_eq_getElem hlt⟩
        have hn := pLines_next hq he
        obtain ⟨hqb, hql⟩ := hsb q (List.mem_of_getElem? hq)
        have hread := pread_fn q hqb (by omega)
        have hro := pRead_ok q
        have hre := pRead_err q
        conv => whnf
        refine ⟨rfl, ⟨by omega, by omega⟩, ?_⟩
        conv => whnf
        refine ⟨rfl, hlt, fun x hx => ?_⟩
        obtain rfl : x = q := Option.some.inj ((show L[k]? = some x from hx).symm.trans hq)
        clear hx
        conv => whnf
        refine Fork.intro (fun h3 => ?_) (fun h3 => ?_)
        · have h3 := (str_is hqb .nil h3).1 rfl
          rw [decide_eq_true h3] at hn
          conv => whnf
          rw [e0]
          refine ⟨(k + 1, out), [], [], ?_, ⟨hlt, by show out.length ≤ k + 1; omega, hn⟩, by show L.length - (k + 1) < L.length - k; omega⟩
          repeat' (first | exact trivial | exact .inl (DLe.refl _) | exact .inl (DLe.nil _ _) | (refine .inr ⟨rfl, _, ?_, rfl⟩; rfl) | exact rfl | exact Nat.zero_le _ | constructor)
        · have h3 := (str_is hqb .nil h3).2 rfl
          rw [decide_eq_false h3] at hn
          generalize pRead x = r at *
          obtain ⟨⟨rc, rop, rid, rvip, raddr, rport, rproto, rnum⟩, re⟩ := r
          dsimp only at hre hn hread
          conv => whnf
          refine CallVC.pure hread rfl ?_
          rintro _ rfl
          conv => whnf
          rcases hre with rfl | rfl
          · replace hn : pLines L 0 [] = pLines (L.drop (k + 1)) (k + 1) (out ++ [⟨((out.length + 1 : Nat) : Int), rop, rid, rvip, raddr, rport, rproto, rnum⟩]) := hn
            conv => whnf
            rw [u64_next (n := out.length) (by omega)]
            conv => whnf
            refine ⟨by decide, ?_⟩
            conv => whnf
            refine ⟨Ord, ordD, out ++ [⟨((out.length + 1 : Nat) : Int), rop, rid, rvip, raddr, rport, rproto, rnum⟩], (by rw [List.map_append]; rfl), fun _ => rfl, by rw [List.length_append]; show out.length + 1 ≤ _; omega, by rw [List.length_append]; show (out.length + 1) * 48 ≤ _; omega, rfl, ?_⟩
            conv => whnf
            rw [e0]
            refine ⟨(k + 1, out ++ [⟨((out.length + 1 : Nat) : Int), rop, rid, rvip, raddr, rport, rproto, rnum⟩]), [(1, 3)], [], ?_, ⟨hlt, by show (out ++ _).length ≤ k + 1; rw [List.length_append]; show out.length + 1 ≤ k + 1; omega, hn⟩, by show L.length - (k + 1) < L.length - k; omega⟩
            repeat' (first | exact trivial | exact .inl (DLe.refl _) | exact .inl (DLe.nil _ _) | (refine .inr ⟨rfl, _, ?_, rfl⟩; rfl) | exact rfl | exact Nat.zero_le _ | constructor)
          · have hn : pLines L 0 [] = ([], ((k + 1 : Nat) : Int), 3) := hn
            rw [hn]
            conv => whnf
            rw [e0]
            show DLe (.tup [.v (.slice none 0 0), intD ((k + 1 : Nat) : Int), intD 3]) (parseD ([], ((k + 1 : Nat) : Int), 3))
            exact dle_tup3 (DLe.nil _ _)
      · have h2 := of_decide_eq_false h2
        obtain rfl : k = L.length := by omega
        rw [List.drop_length, pLines] at he
        rw [he]
        conv => whnf
        show DLe (parseD (out, 0, 0)) (parseD (out, 0, 0))
        exact DLe.refl _
theorem parse_fnP (s : List Nat) (hs : Byt s) (hl : s.length ≤ 90000) : Fn Tryz.prog 13 [strD s] fun d => d = parseD (parseT s) := Fn.exact (parse0_fn s hs hl)

/-! ### The document -/
end Go.Proofs.YtooaeccmkgockaaGreatDoor.V
