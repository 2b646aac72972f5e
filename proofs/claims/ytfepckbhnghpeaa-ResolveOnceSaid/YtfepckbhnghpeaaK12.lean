/-
  The program's cache: its deeds, whatever stands; what stands stays right. Conditions: the cache stands right, not too much is known.
  Small helps of the document, by value; deeds with a cache as rows. Conditions: rows not too long.
-/
import Derived.Test.YtfepckbhnghpeaaCnK
namespace Go.Proofs.Ytfepckbhnghpeaa.V
open Go.RowKit
attribute [local irreducible] Fn FnN OpVC ArC FnR ArL

theorem CStand.some {d : CDat} {T : List Pl} (h : CStand d T) {k : Int × Int} {x : Pl} (hq : findT T k = .some x) : ∃ p ∈ d.L, p.pl = x ∧ p.pl.key = k := by
  obtain ⟨h1, h2⟩ := findT_mem hq
  obtain ⟨p, hp, hpx⟩ := List.mem_map.1 (h.perm.mem_iff.2 h1)
  exact ⟨p, hp, hpx, by rw [hpx]; exact h2⟩
theorem CStand.ne {d : CDat} {T : List Pl} (h : CStand d T) {k : Int × Int} (hq : findT T k = .none) : ∀ p ∈ d.L, p.pl.key ≠ k := fun p hp e => by
  have := h.find hp
  rw [e, hq] at this
  cases this
theorem want_ar (d : CDat) (T : List Pl) (h : CStand d T) (ht : TOk T) (k : Int × Int) (hk : keyW k) (b : List Nat) (hb : b.length ≤ 100000) (hn : 0 ≤ d.now ∧ d.now ≤ 2000000000) (hw : waitsT T ≤ 1000000) :
    ArC Try.prog 28 [ptrD d.cg, .agg (plC k), octR b] (cacheM d) fun r M => r = .tup [boolD (wantT d.c d.now T k b).1.1, errD (wantT d.c d.now T k b).1.2] ∧ ∃ d', M = cacheM d' ∧ d'.cg = d.cg ∧ d'.c = d.c ∧ d'.now = d.now ∧ CStand d' (wantT d.c d.now T k b).2 := by
  cases hq : findT T k with
  | none => exact want_new d T h k hk (h.ne hq) b hb hn hw
  | some x =>
    obtain ⟨p, hp, rfl, rfl⟩ := h.some hq
    have hpt := ht p.pl (h.perm.mem_iff.1 (List.mem_map_of_mem hp))
    obtain ⟨A, B, hL⟩ := mem_split' hp
    unfold wantT
    rw [hq]
    dsimp only
    cases hkn : p.pl.known with
    | true =>
      refine (want_no d T h p hp b hk (.inl hkn)).mono fun r M hh => ?_
      obtain ⟨rfl, rfl⟩ := hh
      rw [hkn]
      exact ⟨rfl, d, rfl, rfl, rfl, rfl, h⟩
    | false =>
      dsimp only
      cases hge : decide ((waitsT T : Int) ≥ d.c 28) with
      | true =>
        refine (want_no d T h p hp b hk (.inr (of_decide_eq_true hge))).mono fun r M hh => ?_
        obtain ⟨rfl, rfl⟩ := hh
        rw [hkn]
        exact ⟨rfl, d, rfl, rfl, rfl, rfl, h⟩
      | false =>
        have hrow : p.row ≠ none := fun e => (hpt.1 hkn).1 ((h.ok.rows p hp).1 e)
        have h3 := want_old d T h A B p hL b hb hn hw hk hkn hrow (of_decide_eq_false hge)
        dsimp only at h3
        rw [hkn] at h3
        exact h3
theorem learn_ar (d : CDat) (T : List Pl) (h : CStand d T) (k : Int × Int) (hk : keyW k) (m : Nat → Int) (add : Bool) (hn : 0 ≤ d.now ∧ d.now ≤ 2000000000) (hw : waitsT T ≤ 1000000) :
    ArC Try.prog 31 [ptrD d.cg, .agg (plC k), .agg (macC m), boolD add] (cacheM d) fun r M => r = .tup [wsR (learnT d.c d.now T k m add).1.1, boolD (learnT d.c d.now T k m add).1.2] ∧ ∃ d', M = cacheM d' ∧ d'.cg = d.cg ∧ d'.c = d.c ∧ d'.now = d.now ∧ CStand d' (learnT d.c d.now T k m add).2 := by
  cases hq : findT T k with
  | none => exact learn_new d T h k hk (h.ne hq) m add hn
  | some x =>
    obtain ⟨p, hp, rfl, rfl⟩ := h.some hq
    obtain ⟨A, B, hL⟩ := mem_split' hp
    unfold learnT
    rw [hq]
    exact learn_old d T h A B p hL m add hn hw hk

/-! ### What stands stays right -/
theorem insT_mem {x y : Pl} {T : List Pl} : y ∈ insT x T ↔ y = x ∨ y ∈ T := by rw [(insT_perm x T).mem_iff, List.mem_cons]
theorem insT_len (x : Pl) (T : List Pl) : (insT x T).length = T.length + 1 := (insT_perm x T).length_eq
theorem insT_waits (x : Pl) (T : List Pl) : waitsT (insT x T) = x.ws.length + waitsT T := waitsT_perm (insT_perm x T)
theorem updT_mem {x y : Pl} {T : List Pl} (h : y ∈ updT T x) : y = x ∨ y ∈ T := by
  unfold updT at h
  obtain ⟨z, hz, e⟩ := List.mem_map.1 h
  cases hq : decide (z.key = x.key) with
  | true => rw [hq] at e; exact .inl e.symm
  | false => rw [hq] at e; exact .inr (e ▸ hz)
theorem updT_len (x : Pl) (T : List Pl) : (updT T x).length = T.length := by unfold updT; exact List.length_map _
theorem updT_waits {T : List Pl} (hs : SortT T) {x y : Pl} (hx : x ∈ T) (hk : y.key = x.key) : waitsT (updT T y) + x.ws.length = waitsT T + y.ws.length := by
  obtain ⟨A, B, rfl⟩ := List.append_of_mem hx
  rw [updT_split (sort_keys hs) hk]
  exact waitsT_set
theorem want_ok {c : Nat → Int} {now : Int} {T : List Pl} (ht : TOk T) (k : Int × Int) (b : List Nat) : TOk (wantT c now T k b).2 := by
  unfold wantT
  cases hq : findT T k with
  | none =>
    dsimp only
    split
    · intro y hy
      rcases insT_mem.1 hy with rfl | hy
      · exact ⟨(fun _ => ⟨by simp, by show (0 : Int) ≤ 1; decide⟩), (fun e => by cases e), by show (0 : Int) ≤ 1; decide⟩
      · exact ht y hy
    · exact ht
  | some x =>
    have hx := (findT_mem hq).1
    dsimp only
    split
    · exact ht
    · rename_i hkn
      split
      · exact ht
      · intro y hy
        rcases updT_mem hy with rfl | hy
        · exact ⟨(fun _ => ⟨by simp, (ht x hx).2.2⟩), (fun e => by
            have e : x.known = true := e
            rw [hkn] at e; cases e), (ht x hx).2.2⟩
        · exact ht y hy
theorem want_len {c : Nat → Int} {now : Int} (T : List Pl) (k : Int × Int) (b : List Nat) : (wantT c now T k b).2.length ≤ T.length + 1 := by
  unfold wantT
  split
  · split
    · exact Nat.le_succ _
    · split
      · exact Nat.le_succ _
      · dsimp only; rw [updT_len]; exact Nat.le_succ _
  · split
    · dsimp only; rw [insT_len]; exact Nat.le_refl _
    · exact Nat.le_succ _
theorem wantT_known {c : Nat → Int} {now : Int} {T : List Pl} {k : Int × Int} {b : List Nat} {x : Pl} (hq : findT T k = .some x) (hk : x.known = true) : wantT c now T k b = ((false, 10), T) := by
  unfold wantT
  rw [hq]
  simp only [hk]
theorem wantT_full {c : Nat → Int} {now : Int} {T : List Pl} {k : Int × Int} {b : List Nat} {x : Pl} (hq : findT T k = .some x) (hk : x.known = false) (hw : decide ((waitsT T : Int) ≥ c 28) = true) : wantT c now T k b = ((false, 7), T) := by
  unfold wantT
  rw [hq]
  simp only [hk, hw]
theorem wantT_old {c : Nat → Int} {now : Int} {T : List Pl} {k : Int × Int} {b : List Nat} {x : Pl} (hq : findT T k = .some x) (hk : x.known = false) (hw : decide ((waitsT T : Int) ≥ c 28) = false) : wantT c now T k b = ((false, 0), updT T { x with ws := x.ws ++ [b] }) := by
  unfold wantT
  rw [hq]
  simp only [hk, hw]
theorem want_waits {c : Nat → Int} {now : Int} {T : List Pl} (hs : SortT T) (k : Int × Int) (b : List Nat) : waitsT (wantT c now T k b).2 = waitsT T + match decide ((wantT c now T k b).1.2 = 0) with
    | true => 1
    | false => 0 := by
  unfold wantT
  cases hq : findT T k with
  | none =>
    dsimp only
    split
    · dsimp only; rw [insT_waits]; simp; omega
    · rfl
  | some x =>
    obtain ⟨hx, hk⟩ := findT_mem hq
    have hgo : ∀ y, y = wantT c now T k b → waitsT y.2 = waitsT T + match decide (y.1.2 = 0) with
      | true => 1
      | false => 0 := by
      intro y hy
      cases hkn : x.known with
      | true => rw [wantT_known hq hkn] at hy; subst hy; rfl
      | false =>
        cases hge : decide ((waitsT T : Int) ≥ c 28) with
        | true => rw [wantT_full hq hkn hge] at hy; subst hy; rfl
        | false =>
          rw [wantT_old hq hkn hge] at hy
          subst hy
          have := updT_waits hs hx (y := { x with ws := x.ws ++ [b] }) rfl
          dsimp only at this ⊢
          rw [List.length_append, List.length_singleton] at this
          show _ = waitsT T + 1
          omega
    have h9 := hgo _ rfl
    unfold wantT at h9
    rw [hq] at h9
    exact h9
theorem learn_ok {c : Nat → Int} {now : Int} {T : List Pl} (ht : TOk T) (k : Int × Int) (m : Nat → Int) (add : Bool) : TOk (learnT c now T k m add).2 := by
  have hnew : ∀ due, (((⟨k.1, k.2, true, m, 0, due, []⟩ : Pl).known = false → (⟨k.1, k.2, true, m, 0, due, []⟩ : Pl).ws ≠ [] ∧ (0 : Int) ≤ (⟨k.1, k.2, true, m, 0, due, []⟩ : Pl).tries) ∧ ((⟨k.1, k.2, true, m, 0, due, []⟩ : Pl).known = true → (⟨k.1, k.2, true, m, 0, due, []⟩ : Pl).ws = []) ∧ (0 : Int) ≤ (⟨k.1, k.2, true, m, 0, due, []⟩ : Pl).tries) := fun due => ⟨(fun e => by cases e), (fun _ => rfl), Int.le_refl 0⟩
  unfold learnT
  cases hq : findT T k with
  | none =>
    dsimp only
    split
    · intro y hy
      rcases insT_mem.1 hy with rfl | hy
      · exact hnew _
      · exact ht y hy
    · exact ht
  | some x =>
    intro y hy
    rcases updT_mem hy with rfl | hy
    · exact hnew _
    · exact ht y hy
theorem learn_len {c : Nat → Int} {now : Int} (T : List Pl) (k : Int × Int) (m : Nat → Int) (add : Bool) : (learnT c now T k m add).2.length ≤ T.length + 1 := by
  unfold learnT
  split
  · dsimp only; rw [updT_len]; exact Nat.le_succ _
  · split
    · dsimp only; rw [insT_len]; exact Nat.le_refl _
    · exact Nat.le_succ _
theorem learn_waits {c : Nat → Int} {now : Int} {T : List Pl} (hs : SortT T) (k : Int × Int) (m : Nat → Int) (add : Bool) : waitsT (learnT c now T k m add).2 + (learnT c now T k m add).1.1.length = waitsT T := by
  unfold learnT
  cases hq : findT T k with
  | none =>
    dsimp only
    split
    · dsimp only; rw [insT_waits]; simp
    · simp
  | some x =>
    obtain ⟨hx, hk⟩ := findT_mem hq
    have := updT_waits hs hx (y := ⟨k.1, k.2, true, m, 0, now + clampW (c 29), []⟩) hk.symm
    dsimp only at this ⊢
    simp at this
    omega
theorem tick_ok {c : Nat → Int} {now : Int} {T : List Pl} (ht : TOk T) : TOk (tickT c now T) := fun y hy => by
  unfold tickT at hy
  obtain ⟨x, hx, e⟩ := List.mem_filterMap.1 hy
  have h := ht x hx
  unfold tickX at e
  split at e
  · injection e with e; rw [← e]; exact h
  · split at e
    · injection e with e
      rw [← e]
      refine ⟨fun hk => ⟨(h.1 hk).1, ?_⟩, h.2.1, ?_⟩
      all_goals
        have := h.2.2
        dsimp only
        omega
    · cases e
theorem tick_len (c : Nat → Int) (now : Int) (T : List Pl) : (tickT c now T).length ≤ T.length := List.length_filterMap_le _ _
end Go.Proofs.Ytfepckbhnghpeaa.V
namespace Go.Proofs.Ytfepckbhnghpeaa.V
open Go.RowKit
attribute [local irreducible] Fn FnN OpVC ArC FnR ArL

theorem fewC_fn (l : List Nat) (n : Nat) (hl : n ≤ 1000000) : Fn Try.prog 23 [octR l, intD n] fun d => d = octR (l.take n) := by
  refine fnOf [] Try.func23 rfl (by kernel_rfl) (Nat.le_of_ble_eq_true rfl) ?_
  conv => whnf
  refine Fork.intro (fun q => ?_) (fun q => ?_)
  · have q := of_decide_eq_true q
    conv => whnf
    refine ⟨rfl, ⟨by decide, by omega, by omega⟩, ?_⟩
    conv => whnf
    try rfl
  · have q := of_decide_eq_false q
    rw [List.take_of_length_le (by omega)]
    conv => whnf
/-! ### Deeds -/
end Go.Proofs.Ytfepckbhnghpeaa.V
