/-
  The document's wheel: who stands ahead, where one is, one set, by value. Conditions: the row not too long, the tick not too great.
-/
import Derived.Test.YtcbpdjikdohegaaK1
namespace Go.Proofs.Ytcbpdjikdohegaa.V
open Go.RowKit
attribute [local irreducible] Fn FnN OpVC Ob

/-- An alarm. -/
structure Al where
  id : Int
  at_ : Int
deriving DecidableEq
def alD (x : Al) : List D := [intD x.id, intD x.at_]
abbrev rowsA (L : List Al) : D := .rows Al 2 alD L
/-- The document's wheel. -/
def docD (now : Int) (L : List Al) : List D := [intD now, rowsA L]

def aheadA (a b : Al) : Bool := match decide (a.at_ < b.at_) with
  | true => true
  | false => match decide (a.at_ = b.at_) with
    | true => decide (a.id < b.id)
    | false => false
def isId (n : Int) (x : Al) : Bool := decide (x.id = n)

theorem ahead_fn (a b : Al) : Fn Try.prog 61 [.agg (alD a), .agg (alD b)] fun d => d = boolD (aheadA a b) := by
  refine fnOf [] Try.func61 rfl (by kernel_rfl) (Nat.le_of_ble_eq_true rfl) ?_
  unfold aheadA
  conv => whnf
  cases h1 : decide (a.at_ < b.at_)
  · conv => whnf
    cases h2 : decide (a.at_ = b.at_)
    · conv => whnf
    · conv => whnf
  · conv => whnf

theorem rfind_rd (now : Int) (L : List Al) (n : Int) (hl : L.length ≤ 1000) : FnN Try.prog 33 [.fp (docD now L), intD n] fun d => d = intD (findI (isId n) L) := by
  refine fnNOf [] Try.func33 rfl (by kernel_rfl) (Nat.le_of_ble_eq_true rfl) ?_
  conv => whnf
  refine ⟨Nat, fun k => ⟨[(5, intD k), (1, intD n), (0, .fp (docD now L))], [], 0, ([], 0)⟩, fun k => k ≤ L.length ∧ ∀ (j : Nat) u, j < k → L[j]? = some u → isId n u = false, fun k => L.length - k, ⟨0, [], [], ?_, Nat.zero_le _, fun j u h => by omega⟩, ?_⟩
  · repeat' (first | exact trivial | exact .inl (DLe.refl _) | exact .inl (DLe.nil _ _) | (refine .inr ⟨rfl, _, ?_, rfl⟩; rfl) | exact rfl | exact Nat.zero_le _ | constructor)
  · rintro k ⟨hk, hno⟩
    conv => whnf
    refine Fork.intro (fun h1 => ?_) (fun h1 => ?_)
    · have hlt : (k : Int) < L.length := of_decide_eq_true h1
      conv => whnf
      refine ⟨rfl, ⟨by omega, hlt⟩, fun x hx => ?_⟩
      have hxk : L[k]? = some x := by simpa using hx
      conv => whnf
      refine Fork.intro (fun h2 => ?_) (fun h2 => ?_)
      · rw [← findI_at hxk (h2 : isId n x = true) hno]
        conv => whnf
        exact ⟨rfl, rfl⟩
      · conv => whnf
        rw [wrap_next (show k < 1000 by omega) (by omega)]
        refine ⟨k + 1, [], [], ?_, ⟨by omega, no_next hxk h2 hno⟩, by show L.length - (k + 1) < L.length - k; omega⟩
        repeat' (first | exact trivial | exact .inl (DLe.refl _) | exact .inl (DLe.nil _ _) | (refine .inr ⟨rfl, _, ?_, rfl⟩; rfl) | exact rfl | exact Nat.zero_le _ | constructor)
    · have hge : ¬ (k : Int) < L.length := of_decide_eq_false h1
      rw [findI_none fun j u hj hu => hno j u (by omega) hu]
      conv => whnf
      exact ⟨rfl, rfl⟩

/-- The row with one more, as it comes to be: it is laid ahead of the first that it stands ahead of. -/
def insP (a : Al) (L : List Al) : Nat → List Al × Bool
  | 0 => ([], false)
  | k + 1 => match L[k]? with
    | some x => match (insP a L k).2 with
      | true => ((insP a L k).1 ++ [x], true)
      | false => match aheadA a x with
        | true => ((insP a L k).1 ++ [a] ++ [x], true)
        | false => ((insP a L k).1 ++ [x], false)
    | none => insP a L k
def insF (a : Al) (L : List Al) : List Al := match (insP a L L.length).2 with
  | true => (insP a L L.length).1
  | false => (insP a L L.length).1 ++ [a]
theorem insP_len (a : Al) (L : List Al) : ∀ k, (insP a L k).1.length ≤ k + 1 ∧ ((insP a L k).2 = false → (insP a L k).1.length ≤ k)
  | 0 => ⟨Nat.zero_le _, fun _ => Nat.le_refl _⟩
  | k + 1 => by
    obtain ⟨h1, h2⟩ := insP_len a L k
    rw [insP]
    split
    · split
      · exact ⟨by simp; omega, fun h => by cases h⟩
      · rename_i hf
        have := h2 hf
        split
        · exact ⟨by simp; omega, fun h => by cases h⟩
        · exact ⟨by simp; omega, fun _ => by simp; omega⟩
    · exact ⟨by omega, fun h => by have := h2 h; omega⟩

/-- May one be set? -/
def setQ (now : Int) (L : List Al) (a : Al) : Bool := match decide (a.at_ ≤ now) with
  | true => false
  | false => match decide (now + 4095 < a.at_) with
    | true => false
    | false => match decide (0 ≤ findI (isId a.id) L) with
      | true => false
      | false => true
def setL (now : Int) (L : List Al) (a : Al) : List Al := match setQ now L a with
  | true => insF a L
  | false => L

theorem rset_ob (now : Int) (L : List Al) (a : Al) (hl : L.length ≤ 100) (hn : 0 ≤ now ∧ now ≤ 1099511627776) : Ob Try.prog 23 61 (docD now L) [.agg (alD a)] fun d X' => d = boolD (setQ now L a) ∧ X' = docD now (setL now L a) := by
  refine obOf [] Try.func23 rfl (by kernel_rfl) (Nat.le_of_ble_eq_true rfl) ?_
  have e1 : IntKind.i64.wrap (now + 4095) = now + 4095 := IntWalk.i64_in _ (by omega)
  have hfind := rfind_rd now L a.id (by omega)
  unfold setL setQ
  conv => whnf
  cases h1 : decide (a.at_ ≤ now) with
  | true =>
    conv => whnf
    exact ⟨rfl, rfl⟩
  | false =>
    conv => whnf
    rw [e1]
    cases h2 : decide (now + 4095 < a.at_) with
    | true =>
      conv => whnf
      exact ⟨rfl, rfl⟩
    | false =>
      conv => whnf
      refine CallVC.look hfind rfl ?_
      rintro _ rfl
      conv => whnf
      cases h3 : decide (0 ≤ findI (isId a.id) L) with
      | true =>
        conv => whnf
        exact ⟨rfl, rfl⟩
      | false =>
        conv => whnf
        refine ⟨Nat, fun k => ⟨[(7, intD k), (6, boolD (insP a L k).2), (5, .grow 2), (3, .loc 1 0), (0, .loc 0 0)], [(0, .cells 61 (docD now L)), (1, .cells 58 (alD a)), (2, .grow Al 58 2 alD (insP a L k).1)], 3, ([0], 1)⟩, fun k => k ≤ L.length, fun k => L.length - k, ⟨0, [], [2], ?_, Nat.zero_le _⟩, ?_⟩
        · repeat' (first | exact trivial | exact .inl (DLe.refl _) | exact .inl (DLe.nil _ _) | (refine .inr ⟨rfl, _, ?_, rfl⟩; rfl) | exact rfl | exact Nat.zero_le _ | constructor)
        · intro k hk
          have hpl := insP_len a L k
          conv => whnf
          refine Fork.intro (fun g1 => ?_) (fun g1 => ?_)
          · have hlt : (k : Int) < L.length := of_decide_eq_true g1
            have hstep : insP a L (k + 1) = match L[k]? with
                | some x => match (insP a L k).2 with
                  | true => ((insP a L k).1 ++ [x], true)
                  | false => match aheadA a x with
                    | true => ((insP a L k).1 ++ [a] ++ [x], true)
                    | false => ((insP a L k).1 ++ [x], false)
                | none => insP a L k := rfl
            obtain ⟨x, hxk⟩ : ∃ x, L[k]? = some x := ⟨L[k]'(by omega), List.getElem?_eq_getElem _⟩
            rw [hxk] at hstep
            generalize insP a L k = st at hstep hpl ⊢
            obtain ⟨o, i⟩ := st
            cases i with
            | true =>
              simp only at hstep hpl
              conv => whnf
              refine ⟨rfl, ⟨by omega, hlt⟩, fun x' hx' => ?_⟩
              obtain rfl : x' = x := by
                have : L[k]? = some x' := by simpa using hx'
                rw [hxk] at this; injection this with this; exact this.symm
              conv => whnf
              (refine ⟨Nat.le_of_ble_eq_true rfl, ?_⟩; conv => whnf)
              refine ⟨Al, alD, o ++ [x'], (by rw [List.map_append]; rfl), fun _ => rfl, by simp only [List.length_append, List.length_cons, List.length_nil]; omega, by simp only [List.length_append, List.length_cons, List.length_nil]; omega, rfl, ?_⟩
              conv => whnf
              rw [wrap_next (show k < 100 by omega) (by omega)]
              refine ⟨k + 1, [(2, 3)], [], ?_, by show k + 1 ≤ _; omega, by show L.length - (k + 1) < L.length - k; omega⟩
              show Cover _ _ _ ⟨[_, (6, boolD (insP a L (k + 1)).2), _, _, _], [_, _, (2, .grow Al _ 2 alD (insP a L (k + 1)).1)], _, _⟩
              rw [hstep]
              repeat' (first | exact trivial | exact .inl (DLe.refl _) | exact .inl (DLe.nil _ _) | (refine .inr ⟨rfl, _, ?_, rfl⟩; rfl) | exact rfl | exact Nat.zero_le _ | constructor)
            | false =>
              simp only at hstep hpl
              conv => whnf
              refine ⟨rfl, ⟨by omega, hlt⟩, fun x' hx' => ?_⟩
              obtain rfl : x' = x := by
                have : L[k]? = some x' := by simpa using hx'
                rw [hxk] at this; injection this with this; exact this.symm
              conv => whnf
              refine CallVC.pure (ahead_fn a x') rfl ?_
              rintro _ rfl
              have hpl2 := hpl.2 trivial
              cases h5 : aheadA a x' with
              | true =>
                rw [h5] at hstep
                conv => whnf
                (refine ⟨Nat.le_of_ble_eq_true rfl, ?_⟩; conv => whnf)
                refine ⟨Al, alD, o ++ [a], (by rw [List.map_append]; rfl), fun _ => rfl, by simp only [List.length_append, List.length_cons, List.length_nil]; omega, by simp only [List.length_append, List.length_cons, List.length_nil]; omega, rfl, ?_⟩
                conv => whnf
                refine ⟨rfl, ⟨by omega, hlt⟩, fun x2 hx2 => ?_⟩
                obtain rfl : x2 = x' := by
                  have : L[k]? = some x2 := by simpa using hx2
                  rw [hxk] at this; injection this with this; exact this.symm
                conv => whnf
                (refine ⟨Nat.le_of_ble_eq_true rfl, ?_⟩; conv => whnf)
                refine ⟨Al, alD, o ++ [a] ++ [x2], (by rw [List.map_append]; rfl), fun _ => rfl, by simp only [List.length_append, List.length_cons, List.length_nil]; omega, by simp only [List.length_append, List.length_cons, List.length_nil]; omega, rfl, ?_⟩
                conv => whnf
                rw [wrap_next (show k < 100 by omega) (by omega)]
                refine ⟨k + 1, [(2, 4)], [], ?_, by show k + 1 ≤ _; omega, by show L.length - (k + 1) < L.length - k; omega⟩
                show Cover _ _ _ ⟨[_, (6, boolD (insP a L (k + 1)).2), _, _, _], [_, _, (2, .grow Al _ 2 alD (insP a L (k + 1)).1)], _, _⟩
                rw [hstep]
                repeat' (first | exact trivial | exact .inl (DLe.refl _) | exact .inl (DLe.nil _ _) | (refine .inr ⟨rfl, _, ?_, rfl⟩; rfl) | exact rfl | exact Nat.zero_le _ | constructor)
              | false =>
                rw [h5] at hstep
                conv => whnf
                refine ⟨rfl, ⟨by omega, hlt⟩, fun x2 hx2 => ?_⟩
                obtain rfl : x2 = x' := by
                  have : L[k]? = some x2 := by simpa using hx2
                  rw [hxk] at this; injection this with this; exact this.symm
                conv => whnf
                (refine ⟨Nat.le_of_ble_eq_true rfl, ?_⟩; conv => whnf)
                refine ⟨Al, alD, o ++ [x2], (by rw [List.map_append]; rfl), fun _ => rfl, by simp only [List.length_append, List.length_cons, List.length_nil]; omega, by simp only [List.length_append, List.length_cons, List.length_nil]; omega, rfl, ?_⟩
                conv => whnf
                rw [wrap_next (show k < 100 by omega) (by omega)]
                refine ⟨k + 1, [(2, 3)], [], ?_, by show k + 1 ≤ _; omega, by show L.length - (k + 1) < L.length - k; omega⟩
                show Cover _ _ _ ⟨[_, (6, boolD (insP a L (k + 1)).2), _, _, _], [_, _, (2, .grow Al _ 2 alD (insP a L (k + 1)).1)], _, _⟩
                rw [hstep]
                repeat' (first | exact trivial | exact .inl (DLe.refl _) | exact .inl (DLe.nil _ _) | (refine .inr ⟨rfl, _, ?_, rfl⟩; rfl) | exact rfl | exact Nat.zero_le _ | constructor)
          · have hge : ¬ (k : Int) < L.length := of_decide_eq_false g1
            obtain rfl : k = L.length := by omega
            unfold insF
            generalize insP a L L.length = st at hpl ⊢
            obtain ⟨o, i⟩ := st
            cases i with
            | true =>
              conv => whnf
              exact ⟨rfl, rfl⟩
            | false =>
              simp only at hpl
              conv => whnf
              (refine ⟨Nat.le_of_ble_eq_true rfl, ?_⟩; conv => whnf)
              refine ⟨Al, alD, o ++ [a], (by rw [List.map_append]; rfl), fun _ => rfl, by simp only [List.length_append, List.length_cons, List.length_nil]; omega, by simp only [List.length_append, List.length_cons, List.length_nil]; omega, rfl, ?_⟩
              conv => whnf
              exact ⟨rfl, rfl⟩
end Go.Proofs.Ytcbpdjikdohegaa.V
