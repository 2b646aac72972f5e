/-
  Operations on the law's own map of what waits; what stands is what the map says. Condition: keys of their types.
-/
import Derived.Test.YtfepckbhnghpeaaCqK
namespace Go.Proofs.Ytfepckbhnghpeaa.V
open Go.RowKit
attribute [local irreducible] Fn FnN ArC FnR ArL

section
variable {s : St} {K : D → St → Prop}
end

/-! ### What stands is what the map says -/
def wsT (T : List Pl) (k : Int × Int) : List (List Nat) := match findT T k with
  | some x => x.ws
  | none => []
theorem findT_ins {x : Pl} {k : Int × Int} : ∀ {T : List Pl}, (∀ y ∈ T, y.key ≠ x.key) → findT (insT x T) k = match decide (k = x.key) with
    | true => some x
    | false => findT T k
  | [], _ => by
    unfold insT findT
    rw [List.find?_cons]
    by_cases h : k = x.key
    · simp [h]
    · simp [h, Ne.symm h]
  | y :: r, hn => by
    have ih := findT_ins (x := x) (k := k) (T := r) fun z hz => hn z (List.mem_cons_of_mem _ hz)
    have hy := hn y List.mem_cons_self
    unfold insT
    cases decide (keyN x.key < keyN y.key) with
    | true =>
      show findT (x :: y :: r) k = _
      unfold findT
      rw [List.find?_cons]
      by_cases h : k = x.key
      · simp [h]
      · simp [h, Ne.symm h]
    | false =>
      show findT (y :: insT x r) k = _
      unfold findT at ih ⊢
      rw [List.find?_cons, List.find?_cons, ih]
      by_cases h : k = x.key
      · subst h
        simp [hy]
      · simp only [decide_eq_false h]
theorem findT_upd {y : Pl} {k : Int × Int} : ∀ {T : List Pl}, findT (updT T y) k = match decide (k = y.key) with
    | true => (findT T k).map fun _ => y
    | false => findT T k
  | [] => by cases decide (k = y.key) <;> rfl
  | z :: r => by
    have ih := findT_upd (y := y) (k := k) (T := r)
    unfold updT findT at ih ⊢
    rw [List.map_cons, List.find?_cons, List.find?_cons, ih]
    by_cases h : k = y.key
    · subst h
      by_cases hz : z.key = y.key
      · simp [hz]
      · simp [hz]
    · by_cases hz : z.key = y.key
      · simp [hz, h, Ne.symm h]
      · simp [hz, h]
theorem wsT_ins {x : Pl} {T : List Pl} (hn : ∀ y ∈ T, y.key ≠ x.key) (k : Int × Int) : wsT (insT x T) k = match decide (k = x.key) with
    | true => x.ws
    | false => wsT T k := by
  unfold wsT
  rw [findT_ins hn]
  cases decide (k = x.key) <;> rfl
theorem wsT_upd {x y : Pl} {T : List Pl} (hf : findT T y.key = some x) (k : Int × Int) : wsT (updT T y) k = match decide (k = y.key) with
    | true => y.ws
    | false => wsT T k := by
  unfold wsT
  rw [findT_upd]
  cases hq : decide (k = y.key) with
  | true =>
    have hq := of_decide_eq_true hq
    subst hq
    rw [hf]
    rfl
  | false => rfl
theorem wsT_none {T : List Pl} {k : Int × Int} (h : findT T k = none) : ∀ y ∈ T, y.key ≠ k := fun y hy e => by
  have := List.find?_eq_none.1 h y hy
  simp [e] at this
theorem keeps_want {c : Nat → Int} {now : Int} {T : List Pl} (hs : SortT T) (ht : TOk T) (hw : (waitsT T : Int) ≤ max 0 (c 28)) (hl : (T.length : Int) ≤ max 0 (c 27)) (k : Int × Int) (b : List Nat) :
    match decide ((wantT c now T k b).1.2 = 0) with
    | true => (wantT c now T k b).1.1 = decide ((wsT T k).length = 0) ∧ waitsT (wantT c now T k b).2 = waitsT T + 1 ∧ ((waitsT T : Int) + 1 ≤ max 0 (c 28)) ∧ ((wantT c now T k b).2.length : Int) ≤ max 0 (c 27) ∧ ∀ k', wsT (wantT c now T k b).2 k' = match decide (k' = k) with
      | true => wsT T k ++ [b]
      | false => wsT T k'
    | false => (wantT c now T k b).2 = T := by
  have hwt := want_waits (c := c) (now := now) hs k b
  cases hq : findT T k with
  | none =>
    have hno := wsT_none hq
    have e0 : wsT T k = [] := by unfold wsT; rw [hq]
    cases h1 : decide ((waitsT T : Int) ≥ c 28) with
    | true =>
      have e : wantT c now T k b = ((false, 7), T) := by unfold wantT; rw [hq]; dsimp only; rw [h1]
      rw [e]; rfl
    | false =>
      cases h2 : decide ((T.length : Int) ≥ c 27) with
      | true =>
        have e : wantT c now T k b = ((false, 7), T) := by unfold wantT; rw [hq]; dsimp only; rw [h1, h2]
        rw [e]; rfl
      | false =>
        have e : wantT c now T k b = ((true, 0), insT ⟨k.1, k.2, false, mac0, 1, now + clampW (c 30), [b]⟩ T) := by unfold wantT; rw [hq]; dsimp only; rw [h1, h2]
        have h1 := of_decide_eq_false h1
        have h2 := of_decide_eq_false h2
        rw [e] at hwt ⊢
        refine ⟨by rw [e0]; rfl, hwt, by omega, ?_, fun k' => ?_⟩
        · dsimp only
          rw [insT_len]
          omega
        · dsimp only
          rw [wsT_ins (x := ⟨k.1, k.2, false, mac0, 1, now + clampW (c 30), [b]⟩) hno, e0]
          rfl
  | some x =>
    obtain ⟨hx, hxk⟩ := findT_mem hq
    have e0 : wsT T k = x.ws := by unfold wsT; rw [hq]
    cases hkn : x.known with
    | true =>
      rw [wantT_known hq hkn]
      rfl
    | false =>
      cases h1 : decide ((waitsT T : Int) ≥ c 28) with
      | true =>
        rw [wantT_full hq hkn h1]
        rfl
      | false =>
        have e := wantT_old (now := now) (b := b) hq hkn h1
        have h1 := of_decide_eq_false h1
        rw [e] at hwt ⊢
        have hne := ((ht x hx).1 hkn).1
        refine ⟨?_, hwt, by omega, ?_, fun k' => ?_⟩
        · rw [e0]
          refine (decide_eq_false ?_).symm
          intro h
          exact hne (List.eq_nil_of_length_eq_zero h)
        · dsimp only
          rw [updT_len]
          exact hl
        · dsimp only
          subst hxk
          rw [wsT_upd (x := x) (y := { x with ws := x.ws ++ [b] }) hq, e0]
          rfl
theorem keeps_learn {c : Nat → Int} {now : Int} {T : List Pl} (hs : SortT T) (hl : (T.length : Int) ≤ max 0 (c 27)) (k : Int × Int) (m : Nat → Int) (add : Bool) :
    match (learnT c now T k m add).1.2 with
    | true => (learnT c now T k m add).1.1 = wsT T k ∧ ((learnT c now T k m add).2.length : Int) ≤ max 0 (c 27) ∧ ∀ k', wsT (learnT c now T k m add).2 k' = match decide (k' = k) with
      | true => []
      | false => wsT T k'
    | false => (learnT c now T k m add).1.1 = [] ∧ (learnT c now T k m add).2 = T := by
  cases hq : findT T k with
  | none =>
    have hno := wsT_none hq
    have e0 : wsT T k = [] := by unfold wsT; rw [hq]
    cases add with
    | false =>
      have e : learnT c now T k m false = (([], false), T) := by unfold learnT; rw [hq]
      rw [e]
      exact ⟨rfl, rfl⟩
    | true =>
      cases h2 : decide ((T.length : Int) ≥ c 27) with
      | true =>
        have e : learnT c now T k m true = (([], false), T) := by unfold learnT; rw [hq]; dsimp only; rw [h2]
        rw [e]
        exact ⟨rfl, rfl⟩
      | false =>
        have e : learnT c now T k m true = (([], true), insT ⟨k.1, k.2, true, m, 0, now + clampW (c 29), []⟩ T) := by unfold learnT; rw [hq]; dsimp only; rw [h2]
        have h2 := of_decide_eq_false h2
        rw [e]
        refine ⟨e0.symm, ?_, fun k' => ?_⟩
        · dsimp only
          rw [insT_len]
          omega
        · dsimp only
          rw [wsT_ins (x := ⟨k.1, k.2, true, m, 0, now + clampW (c 29), []⟩) hno]
          rfl
  | some x =>
    obtain ⟨hx, hxk⟩ := findT_mem hq
    have e0 : wsT T k = x.ws := by unfold wsT; rw [hq]
    have e : learnT c now T k m add = ((x.ws, true), updT T ⟨k.1, k.2, true, m, 0, now + clampW (c 29), []⟩) := by unfold learnT; rw [hq]
    rw [e]
    refine ⟨e0.symm, ?_, fun k' => ?_⟩
    · dsimp only
      rw [updT_len]
      exact hl
    · dsimp only
      rw [wsT_upd (x := x) (y := ⟨k.1, k.2, true, m, 0, now + clampW (c 29), []⟩) hq]
      rfl
theorem tickX_some {c : Nat → Int} {now : Int} {x y : Pl} (h : tickX c now x = some y) : y.ws = x.ws ∧ y.key = x.key := by
  unfold tickX at h
  split at h
  · injection h with h; subst h; exact ⟨rfl, rfl⟩
  · split at h
    · injection h with h; subst h; exact ⟨rfl, rfl⟩
    · cases h
theorem waits_tickE (c : Nat → Int) (now : Int) : ∀ T : List Pl, waitsT (tickT c now T) + lostT c now T = waitsT T
  | [] => rfl
  | x :: r => by
    have ih := waits_tickE c now r
    unfold tickT at ih ⊢
    rw [List.filterMap_cons]
    unfold lostT lostX
    cases hq : tickX c now x with
    | none => simp only [waitsT]; omega
    | some y =>
      have := (tickX_some hq).1
      simp only [waitsT, this]; omega
end Go.Proofs.Ytfepckbhnghpeaa.V
