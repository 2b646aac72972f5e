/-
  The farm that lines make, by the program and by the document, by value. Conditions: a text of bytes, not too long.
-/
import Derived.Test.YtooaeccmkgockaaGreatDoorJnK
import Derived.Test.YtooaeccmkgockaaGreatDoorK3
namespace Go.Proofs.YtooaeccmkgockaaGreatDoor.V
open Go.RowKit

theorem dle_farm0 : DLe (.agg [.v (.slice none 0 0), .v (.slice none 0 0)]) (farmD [] []) := fun C v h => by
  cases h with
  | agg hs hh =>
    refine .agg hs fun j d u hd hu => ?_
    match j, hd with
    | 0, hd => injection hd with hd; subst hd; exact DLe.nil _ _ _ _ (hh 0 _ u rfl hu)
    | 1, hd => injection hd with hd; subst hd; exact DLe.nil _ _ _ _ (hh 1 _ u rfl hu)
    | j + 2, hd => simp at hd
attribute [local irreducible] Fn FnN OpVC DLe

abbrev loadD' (r : (List Vip × List Back) × Int) : D := .tup [farmD r.1.1 r.1.2, intD r.2]
theorem loadL_next {L : List Ord} {k : Nat} {o : Ord} {V : List Vip} {B : List Back} {last : Int} {P : (List Vip × List Back) × Int} (hq : L[k]? = some o) (h : P = loadL (L.drop k) V B last) : P = match decide ((doF V B last o).2 = 0) with
    | true => loadL (L.drop (k + 1)) (doF V B last o).1.1.1 (doF V B last o).1.1.2 (doF V B last o).1.2
    | false => (([], []), (doF V B last o).2) := by
  have hk := (List.getElem?_eq_some_iff.1 hq).1
  have e : L.drop k = o :: L.drop (k + 1) := by
    rw [List.drop_eq_getElem_cons hk]
    congr 1
    rw [List.getElem?_eq_getElem hk] at hq
    injection hq
  rw [h, e, loadL]
  rfl
theorem loadL_good : ∀ (L : List Ord) (V : List Vip) (B : List Back) (last : Int), (∀ o, o ∈ L → o.ok) → Good V B → Good (loadL L V B last).1.1 (loadL L V B last).1.2
  | [], V, B, last, _, h => h
  | o :: r, V, B, last, ho, h => by
    rw [loadL]
    split
    · exact loadL_good r _ _ _ (fun x hx => ho x (List.mem_cons_of_mem _ hx)) (doF_good h (ho o List.mem_cons_self))
    · exact good_nil
theorem loadT_good (s : List Nat) (hs : s.length ≤ 90000) : Good (loadT s).1.1 (loadT s).1.2 := by
  unfold loadT
  split
  · exact loadL_good _ _ _ _ (parseT_ok s hs).1 good_nil
  · exact good_nil

set_option maxHeartbeats 2000000 in
theorem load0_fn (s : List Nat) (hs : Byt s) (hl : s.length ≤ 90000) : Fn Tryz.prog 15 [strD s] fun d => DLe d (loadD' (loadT s)) := by
  refine fnOf [] Tryz.func15 rfl (by kernel_rfl) (Nat.le_of_ble_eq_true rfl) ?_
  have hparse := parse_fnP s hs hl
  obtain ⟨hpo, hpl⟩ := parseT_ok s hl
  have hlt : loadT s = match decide ((parseT s).2.2 = 0) with
    | true => loadL (parseT s).1 [] [] 0
    | false => (([], []), (parseT s).2.2) := rfl
  generalize parseT s = r at *
  obtain ⟨L, at_, e⟩ := r
  dsimp only at *
  generalize loadT s = R at *
  conv => whnf
  refine CallVC.pure hparse rfl ?_
  rintro _ rfl
  conv => whnf
  refine Fork.intro (fun h1 => ?_) (fun h1 => ?_)
  · have h1 := (not_dec h1).1 rfl
    rw [decide_eq_false h1] at hlt
    replace hlt : R = (([], []), e) := hlt
    rw [hlt]
    conv => whnf
    exact dle_tup2 dle_farm0
  · have h1 := (not_dec h1).2 rfl
    subst h1
    replace hlt : R = loadL L [] [] 0 := hlt
    conv => whnf
    refine ⟨Nat × (List Vip × List Back) × Int, fun g => ⟨[(22, intD g.1), (21, intD L.length), (20, rowsO L), (7, .loc 1 0), (2, .loc 0 0)], [(0, .cells 45 [.v (.slice none 0 0), .v (.slice none 0 0)]), (1, .cells 73 [rowsV g.2.1.1, rowsB g.2.1.2, .v (.int .u64 g.2.2)])], 2, ([], 0)⟩,
      fun g => g.1 ≤ L.length ∧ Good g.2.1.1 g.2.1.2 ∧ R = loadL (L.drop g.1) g.2.1.1 g.2.1.2 g.2.2, fun g => L.length - g.1, ⟨(0, ([], []), 0), [], [], ?_, Nat.zero_le _, good_nil, hlt⟩, ?_⟩
    · repeat' (first | exact trivial | exact .inl (DLe.refl _) | exact .inl (DLe.nil _ _) | (refine .inr ⟨rfl, _, ?_, rfl⟩; rfl) | exact rfl | exact Nat.zero_le _ | constructor)
    · rintro ⟨k, ⟨V, B⟩, last⟩ ⟨hk, hG, he⟩
      dsimp only at hk hG he
      dsimp only
      have e0 : IntKind.i64.wrap ((k : Int) + 1) = ((k + 1 : Nat) : Int) := wrap_next (n := 100002) (by omega) (by decide)
      conv => whnf
      refine Fork.intro (fun h2 => ?_) (fun h2 => ?_)
      · have h2 := of_decide_eq_true h2
        conv => whnf
        refine ⟨rfl, ⟨by omega, h2⟩, fun o hx => ?_⟩
        have hxk : L[k]? = some o := hx
        have hn := loadL_next hxk he
        have ho := hpo o (List.mem_of_getElem? hxk)
        have hdo := do_fn V B last o ho hG
        have hgood := doF_good (last := last) hG ho
        generalize doF V B last o = r at *
        obtain ⟨⟨⟨V', B'⟩, last'⟩, e⟩ := r
        dsimp only at hdo hgood hn
        clear hx hxk
        conv => whnf
        refine CallVC.pure hdo rfl ?_
        rintro _ rfl
        conv => whnf
        refine Fork.intro (fun h3 => ?_) (fun h3 => ?_)
        · have h3 := (not_dec h3).1 rfl
          rw [decide_eq_false h3] at hn
          replace hn : R = (([], []), e) := hn
          rw [hn]
          conv => whnf
          exact dle_tup2 dle_farm0
        · have h3 := (not_dec h3).2 rfl
          subst h3
          replace hn : R = loadL (L.drop (k + 1)) V' B' last' := hn
          conv => whnf
          rw [e0]
          refine ⟨(k + 1, (V', B'), last'), [], [], ?_, ⟨by show k + 1 ≤ L.length; omega, hgood, hn⟩, by show L.length - (k + 1) < L.length - k; omega⟩
          repeat' (first | exact trivial | exact .inl (DLe.refl _) | exact .inl (DLe.nil _ _) | (refine .inr ⟨rfl, _, ?_, rfl⟩; rfl) | exact rfl | exact Nat.zero_le _ | constructor)
      · have h2 := of_decide_eq_false h2
        obtain rfl : k = L.length := by omega
        rw [List.drop_length, loadL] at he
        rw [he]
        conv => whnf
        show DLe (loadD' ((V, B), 0)) (loadD' ((V, B), 0))
        exact DLe.refl _
theorem load_fn (s : List Nat) (hs : Byt s) (hl : s.length ≤ 90000) : Fn Tryz.prog 15 [strD s] fun d => d = loadD' (loadT s) := Fn.exact (load0_fn s hs hl)

set_option maxHeartbeats 2000000 in
theorem rload0_fn (s : List Nat) (hs : Byt s) (hl : s.length ≤ 90000) : Fn Tryz.prog 16 [strD s] fun d => DLe d (loadD' (loadT s)) := by
  refine fnOf [] Tryz.func16 rfl (by kernel_rfl) (Nat.le_of_ble_eq_true rfl) ?_
  have hparse := rparse_fnP s hs hl
  obtain ⟨hpo, hpl⟩ := parseT_ok s hl
  have hlt : loadT s = match decide ((parseT s).2.2 = 0) with
    | true => loadL (parseT s).1 [] [] 0
    | false => (([], []), (parseT s).2.2) := rfl
  generalize parseT s = r at *
  obtain ⟨L, at_, e⟩ := r
  dsimp only at *
  generalize loadT s = R at *
  conv => whnf
  refine CallVC.pure hparse rfl ?_
  rintro _ rfl
  conv => whnf
  refine ⟨Nat × ((List Vip × List Back) × Int) × Int, fun g => ⟨[(9, intD g.1), (8, .v (.int .u64 g.2.1.2)), (7, .loc 1 0), (6, intD g.2.2), (4, rowsO L), (2, .loc 0 0)], [(0, .cells 45 [.v (.slice none 0 0), .v (.slice none 0 0)]), (1, .cells 45 [rowsV g.2.1.1.1, rowsB g.2.1.1.2])], 2, ([], 0)⟩,
    fun g => g.1 ≤ L.length ∧ Good g.2.1.1.1 g.2.1.1.2 ∧ ((g.2.2 = 0 ∧ R = loadL (L.drop g.1) g.2.1.1.1 g.2.1.1.2 g.2.1.2) ∨ (g.2.2 ≠ 0 ∧ R = (([], []), g.2.2))), fun g => L.length - g.1, ⟨(0, (([], []), 0), e), [], [], ?_, Nat.zero_le _, good_nil, ?_⟩, ?_⟩
  · repeat' (first | exact trivial | exact .inl (DLe.refl _) | exact .inl (DLe.nil _ _) | (refine .inr ⟨rfl, _, ?_, rfl⟩; rfl) | exact rfl | exact Nat.zero_le _ | constructor)
  · by_cases h : e = 0
    · subst h; exact .inl ⟨rfl, hlt⟩
    · rw [decide_eq_false h] at hlt; exact .inr ⟨h, hlt⟩
  · rintro ⟨k, ⟨⟨V, B⟩, last⟩, e⟩ ⟨hk, hG, he⟩
    dsimp only at hk hG he
    dsimp only
    have e0 : IntKind.i64.wrap ((k : Int) + 1) = ((k + 1 : Nat) : Int) := wrap_next (n := 100002) (by omega) (by decide)
    conv => whnf
    refine Fork.intro (fun h2 => ?_) (fun h2 => ?_)
    · have h2 := of_decide_eq_true h2
      conv => whnf
      rcases he with ⟨rfl, he⟩ | ⟨h3, he⟩
      · conv => whnf
        refine ⟨rfl, ⟨by omega, h2⟩, fun o hx => ?_⟩
        have hxk : L[k]? = some o := hx
        have hn := loadL_next hxk he
        have ho := hpo o (List.mem_of_getElem? hxk)
        have hdo := rdo_fn V B last o ho hG
        have hgood := doF_good (last := last) hG ho
        generalize doF V B last o = r at *
        obtain ⟨⟨⟨V', B'⟩, last'⟩, e⟩ := r
        dsimp only at hdo hgood hn
        clear hx hxk
        conv => whnf
        refine CallVC.pure hdo rfl ?_
        rintro _ rfl
        conv => whnf
        rw [e0]
        refine ⟨(k + 1, ((V', B'), last'), e), [], [], ?_, ⟨by show k + 1 ≤ L.length; omega, hgood, ?_⟩, by show L.length - (k + 1) < L.length - k; omega⟩
        · repeat' (first | exact trivial | exact .inl (DLe.refl _) | exact .inl (DLe.nil _ _) | (refine .inr ⟨rfl, _, ?_, rfl⟩; rfl) | exact rfl | exact Nat.zero_le _ | constructor)
        · by_cases h : e = 0
          · subst h; exact .inl ⟨rfl, hn⟩
          · rw [decide_eq_false h] at hn; exact .inr ⟨h, hn⟩
      · refine Fork.intro (fun g => absurd (of_decide_eq_true g) h3) (fun _ => ?_)
        conv => whnf
        refine Fork.intro (fun _ => ?_) (fun g => absurd ((not_dec g).2 rfl) h3)
        rw [he]
        conv => whnf
        exact dle_tup2 dle_farm0
    · have h2 := of_decide_eq_false h2
      obtain rfl : k = L.length := by omega
      conv => whnf
      rcases he with ⟨rfl, he⟩ | ⟨h3, he⟩
      · rw [List.drop_length, loadL] at he
        rw [he]
        conv => whnf
        show DLe (loadD' ((V, B), 0)) (loadD' ((V, B), 0))
        exact DLe.refl _
      · refine Fork.intro (fun _ => ?_) (fun g => absurd ((not_dec g).2 rfl) h3)
        rw [he]
        conv => whnf
        exact dle_tup2 dle_farm0
theorem rload_fn (s : List Nat) (hs : Byt s) (hl : s.length ≤ 90000) : Fn Tryz.prog 16 [strD s] fun d => d = loadD' (loadT s) := Fn.exact (rload0_fn s hs hl)
end Go.Proofs.YtooaeccmkgockaaGreatDoor.V
