/-
  The law SlotsDoes, by value. Condition: the flows' numbers are of their kinds.
-/
import Derived.Test.YtcbpdjikdohegaaYr
namespace Go.Proofs.Ytcbpdjikdohegaa.V
open Go.RowKit
attribute [local irreducible] Fn FnN OpVC Ob ObS NewS

/-- A deed. -/
structure De where
  kind : Int
  f : Fl
  v : Int
structure DeOk (x : De) : Prop where
  f : FlOk x.f
def deD (x : De) : List D := intD x.kind :: flD x.f ++ [intD x.v]
abbrev rowsE (L : List De) : D := .rows De 7 deD L
/-- Where the law stands. -/
structure LS where
  k : Nat
  L : List Sl
  n : Nat
  S : List En
  F : Nat → Prop
theorem put_rel {lo hi : Int} {N : Nat} {L : List Sl} {n : Nat} {S : List En} (h : SRel lo hi N L n S) {f : Fl} (hf : FlOk f) (v : Int) : ∃ (r : Int) (L' : List Sl) (n' : Nat),
    (ObS Try.prog 13 (slA lo hi L n) [.agg (flD f), intD v] fun d A' => d = intD r ∧ A' = slA lo hi L' n') ∧
    Ob Try.prog 14 43 (rX N S) [.agg (flD f), intD v] fun d X' => d = intD r ∧ ∃ S', X' = rX N S' ∧ SRel lo hi N L' n' S' := by
  obtain ⟨hsz, hn⟩ := h.size
  have h1 := put_obs lo hi L n h.ok hf v
  have h2 := rput_ob N S (by omega) hf h.flok v
  unfold slPut at h1
  cases hq : fnd L f (homeN lo hi L.length f) L.length 0 with
  | mk p q =>
  obtain ⟨m, b⟩ := q
  rw [hq] at h1
  cases b with
  | true =>
    obtain ⟨k, hk, _⟩ := h.find_is hq
    rw [hk] at h2
    exact ⟨9, L, n, h1, h2.mono fun d X' hh => ⟨hh.1, S, hh.2, h⟩⟩
  | false =>
    rw [h.find_not hq] at h2
    have e : decide ((S.length : Int) = N) = decide ((n : Int) = L.length) := by rw [hsz, h.len]
    dsimp only at h2
    rw [e] at h2
    cases hg : decide ((n : Int) = L.length) with
    | true =>
      rw [hg] at h1 h2
      exact ⟨7, L, n, h1, h2.mono fun d X' hh => ⟨hh.1, S, hh.2, h⟩⟩
    | false =>
      rw [hg] at h1 h2
      have hne : n ≠ L.length := fun he => of_decide_eq_false hg (by rw [he])
      exact ⟨0, L.set p ⟨f, v, true⟩, n + 1, h1, h2.mono fun d X' hh => by
        obtain ⟨hd, j, hI, rfl⟩ := hh
        exact ⟨hd, _, rfl, h.put hf hq hne hI⟩⟩
theorem drop_rel {lo hi : Int} {N : Nat} {L : List Sl} {n : Nat} {S : List En} (h : SRel lo hi N L n S) {f : Fl} (hf : FlOk f) : ∃ (b : Bool) (S' : List En),
    (ObS Try.prog 11 (slA lo hi L n) [.agg (flD f)] fun d A' => d = boolD b ∧ ∃ L' n', A' = slA lo hi L' n' ∧ SRel lo hi N L' n' S') ∧
    Ob Try.prog 12 43 (rX N S) [.agg (flD f)] fun d X' => d = boolD b ∧ X' = rX N S' := by
  obtain ⟨hsz, hn⟩ := h.size
  have h1 := drop_obs lo hi L n h.ok hf
  have h2 := rdrop_ob N S (by omega) f
  cases hq : fnd L f (homeN lo hi L.length f) L.length 0 with
  | mk p q =>
  obtain ⟨m, b⟩ := q
  rw [hq] at h1
  cases b with
  | true =>
    obtain ⟨k, hk, _⟩ := h.find_is hq
    rw [hk] at h2
    exact ⟨true, S.eraseIdx k, h1.mono fun d A' hh => by
      obtain ⟨hd, L', rfl, x1, x2, x3⟩ := hh
      exact ⟨hd, L', n - 1, rfl, h.drop hq hk x1 x2 x3⟩, h2⟩
  | false =>
    rw [h.find_not hq] at h2
    exact ⟨false, S, h1.mono fun d A' hh => ⟨hh.1, L, n, hh.2, h⟩, h2⟩

set_option maxHeartbeats 40000000 in
theorem does_fn (n0 lo hi : Int) (l : List De) (hl : ∀ x, x ∈ l → DeOk x) : Fn Try.prog 7 [intD n0, .agg [u64D lo, u64D hi], rowsE l] fun d => d = boolD true := by
  refine fnOf [(2, [0, 1, 2, 3, 5, 6, 7, 8, 4, 9, 10]), (10, [1000]), (13, [1000]), (17, [0, 1, 2, 3, 4, 5, 6, 7, 8, 9, 10, 11, 12, 13, 14, 15, 16, 17, 18, 19, 20, 21, 22, 23, 24, 25, 26, 27, 28, 30, 31, 32, 33, 34, 29, 35, 36, 37, 38, 40, 41, 42, 43, 39, 44, 45, 46])] Try.func7 rfl (by kernel_rfl) (Nat.le_of_ble_eq_true rfl) ?_
  have hr0 := SRel.new lo hi n0
  have hsz0 := sl_look (size_fn lo hi (List.replicate (slN n0) sl0) 0) (hasB (by kernel_rfl))
  generalize hNe : slN n0 = N at hr0 hsz0
  generalize hLe : List.replicate N sl0 = L0 at hr0 hsz0
  conv => whnf
  refine CallVC.news (new_new lo hi n0) rfl ?_
  rintro _ S0 rfl
  rw [hNe, hLe]
  conv => whnf
  refine goIn [] Try.func10 rfl (by kernel_rfl) (Nat.le_of_ble_eq_true rfl) ?_
  conv => whnf
  refine CallVC.pure (in_fn n0) rfl ?_
  rintro _ rfl
  rw [hNe]
  conv => whnf
  refine CallVC.look hsz0 rfl ?_
  rintro _ rfl
  rw [hr0.len]
  conv => whnf
  rw [show (!decide ((N : Int) = N)) = false by simp]
  conv => whnf
  refine ⟨LS, fun g => ⟨[(9, intD g.k), (8, .loc 2 0), (7, .loc 1 0), (2, rowsE l)], [(1, .obj (.sep g.F (slA lo hi g.L g.n))), (2, .cells 43 (rX N g.S))], 3, ([], 0)⟩,
    fun g => g.k ≤ l.length ∧ SRel lo hi N g.L g.n g.S, fun g => l.length - g.k, ⟨⟨0, L0, 0, [], S0⟩, [], [], ?_, Nat.zero_le _, hr0⟩, ?_⟩
  · repeat' (first | exact trivial | exact .inl (DLe.refl _) | exact .inl (DLe.nil _ _) | (refine .inr ⟨rfl, _, ?_, rfl⟩; rfl) | exact rfl | exact Nat.zero_le _ | constructor)
  · rintro ⟨k, L, n, S, F⟩ ⟨hk, hr⟩
    dsimp only at hk hr
    cases g1 : decide ((k : Int) < l.length) with
    | false =>
      conv => whnf
      rw [g1]
      conv => whnf
      refine CallVC.pure lives_fn rfl ?_
      rintro _ rfl
      conv => whnf
    | true =>
    have hlt : k < l.length := by have := of_decide_eq_true g1; omega
    obtain ⟨x, hxl⟩ : ∃ x, l[k]? = some x := ⟨_, List.getElem?_eq_getElem hlt⟩
    have hdk := hl x (List.mem_of_getElem? hxl)
    cases g2 : decide ((k : Int) < 80) with
    | false =>
      conv => whnf
      rw [g1]
      conv => whnf
      rw [g2]
      conv => whnf
      refine CallVC.pure lives_fn rfl ?_
      rintro _ rfl
      conv => whnf
    | true =>
    have hk80 := of_decide_eq_true g2
    have hwk : IntKind.i64.wrap ((k : Int) + 1) = ((k + 1 : Nat) : Int) := wrap_next (show k < 100 by omega) (by omega)
    conv => whnf
    rw [g1]
    conv => whnf
    rw [g2]
    conv => whnf
    refine ⟨rfl, ⟨Int.natCast_nonneg _, Int.ofNat_lt.2 hlt⟩, fun y hy => ?_⟩
    obtain rfl : y = x := by rw [Int.toNat_natCast, hxl] at hy; injection hy with hy; exact hy.symm
    conv => whnf
    cases g3 : decide (y.kind = 0) with
    | true =>
      obtain ⟨r, L', n', hp1, hp2⟩ := put_rel hr hdk.f y.v
      conv => whnf
      refine ⟨{b : (Nat → Prop) × List En // SRel lo hi N L' n' b.2}, fun b => ⟨[(60, boolD (!decide (r = r))), (10, .loc 3 0), (9, intD k), (8, .loc 2 0), (7, .loc 1 0), (2, rowsE l)], [(3, .cells 35 (deD y)), (1, .obj (.sep b.val.1 (slA lo hi L' n'))), (2, .cells 43 (rX N b.val.2))], 4, ([], 0)⟩, ?_, fun b => ?_⟩
      · conv => whnf
        refine ⟨?_, ?_, ?_, ?_, trivial⟩
        · conv => whnf
          refine ⟨?_, ?_, ?_, trivial⟩
          · conv => whnf
            refine ⟨?_, ?_, ?_, trivial⟩
            · conv => whnf
              refine CallVC.obs hp1 rfl rfl ?_
              rintro _ _ S1 ⟨rfl, rfl⟩
              refine ⟨?_, ?_, trivial⟩
              · conv => whnf
                refine ⟨?_, trivial⟩
                · conv => whnf
                  refine ⟨?_, trivial⟩
                  · conv => whnf
                    refine CallVC.ob hp2 rfl rfl rfl ?_
                    rintro _ _ ⟨rfl, S', rfl, hr'⟩
                    conv => whnf
                    refine ⟨⟨(S1, S'), hr'⟩, [], [], ?_⟩
                    repeat' (first | exact trivial | exact .inl (DLe.refl _) | exact .inl (DLe.nil _ _) | (refine .inr ⟨rfl, _, ?_, rfl⟩; rfl) | exact rfl | exact Nat.zero_le _ | constructor)
              · conv => whnf
                refine ⟨?_, trivial⟩
                · conv => whnf
                  refine ⟨?_, trivial⟩
                  · conv => whnf
                    refine CallVC.ob hp2 rfl rfl rfl ?_
                    rintro _ _ ⟨rfl, S', rfl, hr'⟩
                    conv => whnf
                    refine ⟨⟨(S1, S'), hr'⟩, [], [], ?_⟩
                    repeat' (first | exact trivial | exact .inl (DLe.refl _) | exact .inl (DLe.nil _ _) | (refine .inr ⟨rfl, _, ?_, rfl⟩; rfl) | exact rfl | exact Nat.zero_le _ | constructor)
            · conv => whnf
              refine ⟨?_, ?_, trivial⟩
              · conv => whnf
                refine CallVC.obs hp1 rfl rfl ?_
                rintro _ _ S1 ⟨rfl, rfl⟩
                refine ⟨?_, trivial⟩
                · conv => whnf
                  refine ⟨?_, trivial⟩
                  · conv => whnf
                    refine CallVC.ob hp2 rfl rfl rfl ?_
                    rintro _ _ ⟨rfl, S', rfl, hr'⟩
                    conv => whnf
                    refine ⟨⟨(S1, S'), hr'⟩, [], [], ?_⟩
                    repeat' (first | exact trivial | exact .inl (DLe.refl _) | exact .inl (DLe.nil _ _) | (refine .inr ⟨rfl, _, ?_, rfl⟩; rfl) | exact rfl | exact Nat.zero_le _ | constructor)
              · conv => whnf
                refine ⟨?_, trivial⟩
                · conv => whnf
                  refine CallVC.obs hp1 rfl rfl ?_
                  rintro _ _ S1 ⟨rfl, rfl⟩
                  refine ⟨?_, trivial⟩
                  · conv => whnf
                    refine CallVC.ob hp2 rfl rfl rfl ?_
                    rintro _ _ ⟨rfl, S', rfl, hr'⟩
                    conv => whnf
                    refine ⟨⟨(S1, S'), hr'⟩, [], [], ?_⟩
                    repeat' (first | exact trivial | exact .inl (DLe.refl _) | exact .inl (DLe.nil _ _) | (refine .inr ⟨rfl, _, ?_, rfl⟩; rfl) | exact rfl | exact Nat.zero_le _ | constructor)
            · conv => whnf
              refine ⟨?_, ?_, trivial⟩
              · conv => whnf
                refine CallVC.obs hp1 rfl rfl ?_
                rintro _ _ S1 ⟨rfl, rfl⟩
                refine ⟨?_, trivial⟩
                · conv => whnf
                  refine ⟨?_, trivial⟩
                  · conv => whnf
                    refine CallVC.ob hp2 rfl rfl rfl ?_
                    rintro _ _ ⟨rfl, S', rfl, hr'⟩
                    conv => whnf
                    refine ⟨⟨(S1, S'), hr'⟩, [], [], ?_⟩
                    repeat' (first | exact trivial | exact .inl (DLe.refl _) | exact .inl (DLe.nil _ _) | (refine .inr ⟨rfl, _, ?_, rfl⟩; rfl) | exact rfl | exact Nat.zero_le _ | constructor)
              · conv => whnf
                refine ⟨?_, trivial⟩
                · conv => whnf
                  refine CallVC.obs hp1 rfl rfl ?_
                  rintro _ _ S1 ⟨rfl, rfl⟩
                  refine ⟨?_, trivial⟩
                  · conv => whnf
                    refine CallVC.ob hp2 rfl rfl rfl ?_
                    rintro _ _ ⟨rfl, S', rfl, hr'⟩
                    conv => whnf
                    refine ⟨⟨(S1, S'), hr'⟩, [], [], ?_⟩
                    repeat' (first | exact trivial | exact .inl (DLe.refl _) | exact .inl (DLe.nil _ _) | (refine .inr ⟨rfl, _, ?_, rfl⟩; rfl) | exact rfl | exact Nat.zero_le _ | constructor)
          · conv => whnf
            refine ⟨?_, ?_, trivial⟩
            · conv => whnf
              refine ⟨?_, ?_, trivial⟩
              · conv => whnf
                refine CallVC.obs hp1 rfl rfl ?_
                rintro _ _ S1 ⟨rfl, rfl⟩
                refine ⟨?_, trivial⟩
                · conv => whnf
                  refine ⟨?_, trivial⟩
                  · conv => whnf
                    refine CallVC.ob hp2 rfl rfl rfl ?_
                    rintro _ _ ⟨rfl, S', rfl, hr'⟩
                    conv => whnf
                    refine ⟨⟨(S1, S'), hr'⟩, [], [], ?_⟩
                    repeat' (first | exact trivial | exact .inl (DLe.refl _) | exact .inl (DLe.nil _ _) | (refine .inr ⟨rfl, _, ?_, rfl⟩; rfl) | exact rfl | exact Nat.zero_le _ | constructor)
              · conv => whnf
                refine ⟨?_, trivial⟩
                · conv => whnf
                  refine CallVC.obs hp1 rfl rfl ?_
                  rintro _ _ S1 ⟨rfl, rfl⟩
                  refine ⟨?_, trivial⟩
                  · conv => whnf
                    refine CallVC.ob hp2 rfl rfl rfl ?_
                    rintro _ _ ⟨rfl, S', rfl, hr'⟩
                    conv => whnf
                    refine ⟨⟨(S1, S'), hr'⟩, [], [], ?_⟩
                    repeat' (first | exact trivial | exact .inl (DLe.refl _) | exact .inl (DLe.nil _ _) | (refine .inr ⟨rfl, _, ?_, rfl⟩; rfl) | exact rfl | exact Nat.zero_le _ | constructor)
            · conv => whnf
              refine ⟨?_, trivial⟩
              · conv => whnf
                refine ⟨?_, trivial⟩
                · conv => whnf
                  refine CallVC.obs hp1 rfl rfl ?_
                  rintro _ _ S1 ⟨rfl, rfl⟩
                  refine ⟨?_, trivial⟩
                  · conv => whnf
                    refine CallVC.ob hp2 rfl rfl rfl ?_
                    rintro _ _ ⟨rfl, S', rfl, hr'⟩
                    conv => whnf
                    refine ⟨⟨(S1, S'), hr'⟩, [], [], ?_⟩
                    repeat' (first | exact trivial | exact .inl (DLe.refl _) | exact .inl (DLe.nil _ _) | (refine .inr ⟨rfl, _, ?_, rfl⟩; rfl) | exact rfl | exact Nat.zero_le _ | constructor)
          · conv => whnf
            refine ⟨?_, ?_, trivial⟩
            · conv => whnf
              refine ⟨?_, ?_, trivial⟩
              · conv => whnf
                refine CallVC.obs hp1 rfl rfl ?_
                rintro _ _ S1 ⟨rfl, rfl⟩
                refine ⟨?_, trivial⟩
                · conv => whnf
                  refine ⟨?_, trivial⟩
                  · conv => whnf
                    refine CallVC.ob hp2 rfl rfl rfl ?_
                    rintro _ _ ⟨rfl, S', rfl, hr'⟩
                    conv => whnf
                    refine ⟨⟨(S1, S'), hr'⟩, [], [], ?_⟩
                    repeat' (first | exact trivial | exact .inl (DLe.refl _) | exact .inl (DLe.nil _ _) | (refine .inr ⟨rfl, _, ?_, rfl⟩; rfl) | exact rfl | exact Nat.zero_le _ | constructor)
              · conv => whnf
                refine ⟨?_, trivial⟩
                · conv => whnf
                  refine CallVC.obs hp1 rfl rfl ?_
                  rintro _ _ S1 ⟨rfl, rfl⟩
                  refine ⟨?_, trivial⟩
                  · conv => whnf
                    refine CallVC.ob hp2 rfl rfl rfl ?_
                    rintro _ _ ⟨rfl, S', rfl, hr'⟩
                    conv => whnf
                    refine ⟨⟨(S1, S'), hr'⟩, [], [], ?_⟩
                    repeat' (first | exact trivial | exact .inl (DLe.refl _) | exact .inl (DLe.nil _ _) | (refine .inr ⟨rfl, _, ?_, rfl⟩; rfl) | exact rfl | exact Nat.zero_le _ | constructor)
            · conv => whnf
              refine ⟨?_, trivial⟩
              · conv => whnf
                refine ⟨?_, trivial⟩
                · conv => whnf
                  refine CallVC.obs hp1 rfl rfl ?_
                  rintro _ _ S1 ⟨rfl, rfl⟩
                  refine ⟨?_, trivial⟩
                  · conv => whnf
                    refine CallVC.ob hp2 rfl rfl rfl ?_
                    rintro _ _ ⟨rfl, S', rfl, hr'⟩
                    conv => whnf
                    refine ⟨⟨(S1, S'), hr'⟩, [], [], ?_⟩
                    repeat' (first | exact trivial | exact .inl (DLe.refl _) | exact .inl (DLe.nil _ _) | (refine .inr ⟨rfl, _, ?_, rfl⟩; rfl) | exact rfl | exact Nat.zero_le _ | constructor)
        · conv => whnf
          refine ⟨?_, ?_, ?_, trivial⟩
          · conv => whnf
            refine ⟨?_, ?_, ?_, trivial⟩
            · conv => whnf
              refine CallVC.obs hp1 rfl rfl ?_
              rintro _ _ S1 ⟨rfl, rfl⟩
              refine ⟨?_, ?_, trivial⟩
              · conv => whnf
                refine ⟨?_, trivial⟩
                · conv => whnf
                  refine ⟨?_, trivial⟩
                  · conv => whnf
                    refine CallVC.ob hp2 rfl rfl rfl ?_
                    rintro _ _ ⟨rfl, S', rfl, hr'⟩
                    conv => whnf
                    refine ⟨⟨(S1, S'), hr'⟩, [], [], ?_⟩
                    repeat' (first | exact trivial | exact .inl (DLe.refl _) | exact .inl (DLe.nil _ _) | (refine .inr ⟨rfl, _, ?_, rfl⟩; rfl) | exact rfl | exact Nat.zero_le _ | constructor)
              · conv => whnf
                refine ⟨?_, trivial⟩
                · conv => whnf
                  refine ⟨?_, trivial⟩
                  · conv => whnf
                    refine CallVC.ob hp2 rfl rfl rfl ?_
                    rintro _ _ ⟨rfl, S', rfl, hr'⟩
                    conv => whnf
                    refine ⟨⟨(S1, S'), hr'⟩, [], [], ?_⟩
                    repeat' (first | exact trivial | exact .inl (DLe.refl _) | exact .inl (DLe.nil _ _) | (refine .inr ⟨rfl, _, ?_, rfl⟩; rfl) | exact rfl | exact Nat.zero_le _ | constructor)
            · conv => whnf
              refine ⟨?_, ?_, trivial⟩
              · conv => whnf
                refine CallVC.obs hp1 rfl rfl ?_
                rintro _ _ S1 ⟨rfl, rfl⟩
                refine ⟨?_, trivial⟩
                · conv => whnf
                  refine ⟨?_, trivial⟩
                  · conv => whnf
                    refine CallVC.ob hp2 rfl rfl rfl ?_
                    rintro _ _ ⟨rfl, S', rfl, hr'⟩
                    conv => whnf
                    refine ⟨⟨(S1, S'), hr'⟩, [], [], ?_⟩
                    repeat' (first | exact trivial | exact .inl (DLe.refl _) | exact .inl (DLe.nil _ _) | (refine .inr ⟨rfl, _, ?_, rfl⟩; rfl) | exact rfl | exact Nat.zero_le _ | constructor)
              · conv => whnf
                refine ⟨?_, trivial⟩
                · conv => whnf
                  refine CallVC.obs hp1 rfl rfl ?_
                  rintro _ _ S1 ⟨rfl, rfl⟩
                  refine ⟨?_, trivial⟩
                  · conv => whnf
                    refine CallVC.ob hp2 rfl rfl rfl ?_
                    rintro _ _ ⟨rfl, S', rfl, hr'⟩
                    conv => whnf
                    refine ⟨⟨(S1, S'), hr'⟩, [], [], ?_⟩
                    repeat' (first | exact trivial | exact .inl (DLe.refl _) | exact .inl (DLe.nil _ _) | (refine .inr ⟨rfl, _, ?_, rfl⟩; rfl) | exact rfl | exact Nat.zero_le _ | constructor)
            · conv => whnf
              refine ⟨?_, ?_, trivial⟩
              · conv => whnf
                refine CallVC.obs hp1 rfl rfl ?_
                rintro _ _ S1 ⟨rfl, rfl⟩
                refine ⟨?_, trivial⟩
                · conv => whnf
                  refine ⟨?_, trivial⟩
                  · conv => whnf
                    refine CallVC.ob hp2 rfl rfl rfl ?_
                    rintro _ _ ⟨rfl, S', rfl, hr'⟩
                    conv => whnf
                    refine ⟨⟨(S1, S'), hr'⟩, [], [], ?_⟩
                    repeat' (first | exact trivial | exact .inl (DLe.refl _) | exact .inl (DLe.nil _ _) | (refine .inr ⟨rfl, _, ?_, rfl⟩; rfl) | exact rfl | exact Nat.zero_le _ | constructor)
              · conv => whnf
                refine ⟨?_, trivial⟩
                · conv => whnf
                  refine CallVC.obs hp1 rfl rfl ?_
                  rintro _ _ S1 ⟨rfl, rfl⟩
                  refine ⟨?_, trivial⟩
                  · conv => whnf
                    refine CallVC.ob hp2 rfl rfl rfl ?_
                    rintro _ _ ⟨rfl, S', rfl, hr'⟩
                    conv => whnf
                    refine ⟨⟨(S1, S'), hr'⟩, [], [], ?_⟩
                    repeat' (first | exact trivial | exact .inl (DLe.refl _) | exact .inl (DLe.nil _ _) | (refine .inr ⟨rfl, _, ?_, rfl⟩; rfl) | exact rfl | exact Nat.zero_le _ | constructor)
          · conv => whnf
            refine ⟨?_, ?_, trivial⟩
            · conv => whnf
              refine ⟨?_, ?_, trivial⟩
              · conv => whnf
                refine CallVC.obs hp1 rfl rfl ?_
                rintro _ _ S1 ⟨rfl, rfl⟩
                refine ⟨?_, trivial⟩
                · conv => whnf
                  refine ⟨?_, trivial⟩
                  · conv => whnf
                    refine CallVC.ob hp2 rfl rfl rfl ?_
                    rintro _ _ ⟨rfl, S', rfl, hr'⟩
                    conv => whnf
                    refine ⟨⟨(S1, S'), hr'⟩, [], [], ?_⟩
                    repeat' (first | exact trivial | exact .inl (DLe.refl _) | exact .inl (DLe.nil _ _) | (refine .inr ⟨rfl, _, ?_, rfl⟩; rfl) | exact rfl | exact Nat.zero_le _ | constructor)
              · conv => whnf
                refine ⟨?_, trivial⟩
                · conv => whnf
                  refine CallVC.obs hp1 rfl rfl ?_
                  rintro _ _ S1 ⟨rfl, rfl⟩
                  refine ⟨?_, trivial⟩
                  · conv => whnf
                    refine CallVC.ob hp2 rfl rfl rfl ?_
                    rintro _ _ ⟨rfl, S', rfl, hr'⟩
                    conv => whnf
                    refine ⟨⟨(S1, S'), hr'⟩, [], [], ?_⟩
                    repeat' (first | exact trivial | exact .inl (DLe.refl _) | exact .inl (DLe.nil _ _) | (refine .inr ⟨rfl, _, ?_, rfl⟩; rfl) | exact rfl | exact Nat.zero_le _ | constructor)
            · conv => whnf
              refine ⟨?_, trivial⟩
              · conv => whnf
                refine ⟨?_, trivial⟩
                · conv => whnf
                  refine CallVC.obs hp1 rfl rfl ?_
                  rintro _ _ S1 ⟨rfl, rfl⟩
                  refine ⟨?_, trivial⟩
                  · conv => whnf
                    refine CallVC.ob hp2 rfl rfl rfl ?_
                    rintro _ _ ⟨rfl, S', rfl, hr'⟩
                    conv => whnf
                    refine ⟨⟨(S1, S'), hr'⟩, [], [], ?_⟩
                    repeat' (first | exact trivial | exact .inl (DLe.refl _) | exact .inl (DLe.nil _ _) | (refine .inr ⟨rfl, _, ?_, rfl⟩; rfl) | exact rfl | exact Nat.zero_le _ | constructor)
          · conv => whnf
            refine ⟨?_, ?_, trivial⟩
            · conv => whnf
              refine ⟨?_, ?_, trivial⟩
              · conv => whnf
                refine CallVC.obs hp1 rfl rfl ?_
                rintro _ _ S1 ⟨rfl, rfl⟩
                refine ⟨?_, trivial⟩
                · conv => whnf
                  refine ⟨?_, trivial⟩
                  · conv => whnf
                    refine CallVC.ob hp2 rfl rfl rfl ?_
                    rintro _ _ ⟨rfl, S', rfl, hr'⟩
                    conv => whnf
                    refine ⟨⟨(S1, S'), hr'⟩, [], [], ?_⟩
                    repeat' (first | exact trivial | exact .inl (DLe.refl _) | exact .inl (DLe.nil _ _) | (refine .inr ⟨rfl, _, ?_, rfl⟩; rfl) | exact rfl | exact Nat.zero_le _ | constructor)
              · conv => whnf
                refine ⟨?_, trivial⟩
                · conv => whnf
                  refine CallVC.obs hp1 rfl rfl ?_
                  rintro _ _ S1 ⟨rfl, rfl⟩
                  refine ⟨?_, trivial⟩
                  · conv => whnf
                    refine CallVC.ob hp2 rfl rfl rfl ?_
                    rintro _ _ ⟨rfl, S', rfl, hr'⟩
                    conv => whnf
                    refine ⟨⟨(S1, S'), hr'⟩, [], [], ?_⟩
                    repeat' (first | exact trivial | exact .inl (DLe.refl _) | exact .inl (DLe.nil _ _) | (refine .inr ⟨rfl, _, ?_, rfl⟩; rfl) | exact rfl | exact Nat.zero_le _ | constructor)
            · conv => whnf
              refine ⟨?_, trivial⟩
              · conv => whnf
                refine ⟨?_, trivial⟩
                · conv => whnf
                  refine CallVC.obs hp1 rfl rfl ?_
                  rintro _ _ S1 ⟨rfl, rfl⟩
                  refine ⟨?_, trivial⟩
                  · conv => whnf
                    refine CallVC.ob hp2 rfl rfl rfl ?_
                    rintro _ _ ⟨rfl, S', rfl, hr'⟩
                    conv => whnf
                    refine ⟨⟨(S1, S'), hr'⟩, [], [], ?_⟩
                    repeat' (first | exact trivial | exact .inl (DLe.refl _) | exact .inl (DLe.nil _ _) | (refine .inr ⟨rfl, _, ?_, rfl⟩; rfl) | exact rfl | exact Nat.zero_le _ | constructor)
        · conv => whnf
          refine ⟨?_, ?_, ?_, trivial⟩
          · conv => whnf
            refine ⟨?_, ?_, trivial⟩
            · conv => whnf
              refine ⟨?_, ?_, trivial⟩
              · conv => whnf
                refine CallVC.obs hp1 rfl rfl ?_
                rintro _ _ S1 ⟨rfl, rfl⟩
                refine ⟨?_, trivial⟩
                · conv => whnf
                  refine ⟨?_, trivial⟩
                  · conv => whnf
                    refine CallVC.ob hp2 rfl rfl rfl ?_
                    rintro _ _ ⟨rfl, S', rfl, hr'⟩
                    conv => whnf
                    refine ⟨⟨(S1, S'), hr'⟩, [], [], ?_⟩
                    repeat' (first | exact trivial | exact .inl (DLe.refl _) | exact .inl (DLe.nil _ _) | (refine .inr ⟨rfl, _, ?_, rfl⟩; rfl) | exact rfl | exact Nat.zero_le _ | constructor)
              · conv => whnf
                refine ⟨?_, trivial⟩
                · conv => whnf
                  refine CallVC.obs hp1 rfl rfl ?_
                  rintro _ _ S1 ⟨rfl, rfl⟩
                  refine ⟨?_, trivial⟩
                  · conv => whnf
                    refine CallVC.ob hp2 rfl rfl rfl ?_
                    rintro _ _ ⟨rfl, S', rfl, hr'⟩
                    conv => whnf
                    refine ⟨⟨(S1, S'), hr'⟩, [], [], ?_⟩
                    repeat' (first | exact trivial | exact .inl (DLe.refl _) | exact .inl (DLe.nil _ _) | (refine .inr ⟨rfl, _, ?_, rfl⟩; rfl) | exact rfl | exact Nat.zero_le _ | constructor)
            · conv => whnf
              refine ⟨?_, trivial⟩
              · conv => whnf
                refine ⟨?_, trivial⟩
                · conv => whnf
                  refine CallVC.obs hp1 rfl rfl ?_
                  rintro _ _ S1 ⟨rfl, rfl⟩
                  refine ⟨?_, trivial⟩
                  · conv => whnf
                    refine CallVC.ob hp2 rfl rfl rfl ?_
                    rintro _ _ ⟨rfl, S', rfl, hr'⟩
                    conv => whnf
                    refine ⟨⟨(S1, S'), hr'⟩, [], [], ?_⟩
                    repeat' (first | exact trivial | exact .inl (DLe.refl _) | exact .inl (DLe.nil _ _) | (refine .inr ⟨rfl, _, ?_, rfl⟩; rfl) | exact rfl | exact Nat.zero_le _ | constructor)
          · conv => whnf
            refine ⟨?_, ?_, trivial⟩
            · conv => whnf
              refine ⟨?_, ?_, trivial⟩
              · conv => whnf
                refine CallVC.obs hp1 rfl rfl ?_
                rintro _ _ S1 ⟨rfl, rfl⟩
                refine ⟨?_, trivial⟩
                · conv => whnf
                  refine ⟨?_, trivial⟩
                  · conv => whnf
                    refine CallVC.ob hp2 rfl rfl rfl ?_
                    rintro _ _ ⟨rfl, S', rfl, hr'⟩
                    conv => whnf
                    refine ⟨⟨(S1, S'), hr'⟩, [], [], ?_⟩
                    repeat' (first | exact trivial | exact .inl (DLe.refl _) | exact .inl (DLe.nil _ _) | (refine .inr ⟨rfl, _, ?_, rfl⟩; rfl) | exact rfl | exact Nat.zero_le _ | constructor)
              · conv => whnf
                refine ⟨?_, trivial⟩
                · conv => whnf
                  refine CallVC.obs hp1 rfl rfl ?_
                  rintro _ _ S1 ⟨rfl, rfl⟩
                  refine ⟨?_, trivial⟩
                  · conv => whnf
                    refine CallVC.ob hp2 rfl rfl rfl ?_
                    rintro _ _ ⟨rfl, S', rfl, hr'⟩
                    conv => whnf
                    refine ⟨⟨(S1, S'), hr'⟩, [], [], ?_⟩
                    repeat' (first | exact trivial | exact .inl (DLe.refl _) | exact .inl (DLe.nil _ _) | (refine .inr ⟨rfl, _, ?_, rfl⟩; rfl) | exact rfl | exact Nat.zero_le _ | constructor)
            · conv => whnf
              refine ⟨?_, trivial⟩
              · conv => whnf
                refine ⟨?_, trivial⟩
                · conv => whnf
                  refine CallVC.obs hp1 rfl rfl ?_
                  rintro _ _ S1 ⟨rfl, rfl⟩
                  refine ⟨?_, trivial⟩
                  · conv => whnf
                    refine CallVC.ob hp2 rfl rfl rfl ?_
                    rintro _ _ ⟨rfl, S', rfl, hr'⟩
                    conv => whnf
                    refine ⟨⟨(S1, S'), hr'⟩, [], [], ?_⟩
                    repeat' (first | exact trivial | exact .inl (DLe.refl _) | exact .inl (DLe.nil _ _) | (refine .inr ⟨rfl, _, ?_, rfl⟩; rfl) | exact rfl | exact Nat.zero_le _ | constructor)
          · conv => whnf
            refine ⟨?_, ?_, trivial⟩
            · conv => whnf
              refine ⟨?_, trivial⟩
              · conv => whnf
                refine ⟨?_, trivial⟩
                · conv => whnf
                  refine CallVC.obs hp1 rfl rfl ?_
                  rintro _ _ S1 ⟨rfl, rfl⟩
                  refine ⟨?_, trivial⟩
                  · conv => whnf
                    refine CallVC.ob hp2 rfl rfl rfl ?_
                    rintro _ _ ⟨rfl, S', rfl, hr'⟩
                    conv => whnf
                    refine ⟨⟨(S1, S'), hr'⟩, [], [], ?_⟩
                    repeat' (first | exact trivial | exact .inl (DLe.refl _) | exact .inl (DLe.nil _ _) | (refine .inr ⟨rfl, _, ?_, rfl⟩; rfl) | exact rfl | exact Nat.zero_le _ | constructor)
            · conv => whnf
              refine ⟨?_, trivial⟩
              · conv => whnf
                refine ⟨?_, trivial⟩
                · conv => whnf
                  refine CallVC.obs hp1 rfl rfl ?_
                  rintro _ _ S1 ⟨rfl, rfl⟩
                  refine ⟨?_, trivial⟩
                  · conv => whnf
                    refine CallVC.ob hp2 rfl rfl rfl ?_
                    rintro _ _ ⟨rfl, S', rfl, hr'⟩
                    conv => whnf
                    refine ⟨⟨(S1, S'), hr'⟩, [], [], ?_⟩
                    repeat' (first | exact trivial | exact .inl (DLe.refl _) | exact .inl (DLe.nil _ _) | (refine .inr ⟨rfl, _, ?_, rfl⟩; rfl) | exact rfl | exact Nat.zero_le _ | constructor)
        · conv => whnf
          refine ⟨?_, ?_, ?_, trivial⟩
          · conv => whnf
            refine ⟨?_, ?_, trivial⟩
            · conv => whnf
              refine ⟨?_, ?_, trivial⟩
              · conv => whnf
                refine CallVC.obs hp1 rfl rfl ?_
                rintro _ _ S1 ⟨rfl, rfl⟩
                refine ⟨?_, trivial⟩
                · conv => whnf
                  refine ⟨?_, trivial⟩
                  · conv => whnf
                    refine CallVC.ob hp2 rfl rfl rfl ?_
                    rintro _ _ ⟨rfl, S', rfl, hr'⟩
                    conv => whnf
                    refine ⟨⟨(S1, S'), hr'⟩, [], [], ?_⟩
                    repeat' (first | exact trivial | exact .inl (DLe.refl _) | exact .inl (DLe.nil _ _) | (refine .inr ⟨rfl, _, ?_, rfl⟩; rfl) | exact rfl | exact Nat.zero_le _ | constructor)
              · conv => whnf
                refine ⟨?_, trivial⟩
                · conv => whnf
                  refine CallVC.obs hp1 rfl rfl ?_
                  rintro _ _ S1 ⟨rfl, rfl⟩
                  refine ⟨?_, trivial⟩
                  · conv => whnf
                    refine CallVC.ob hp2 rfl rfl rfl ?_
                    rintro _ _ ⟨rfl, S', rfl, hr'⟩
                    conv => whnf
                    refine ⟨⟨(S1, S'), hr'⟩, [], [], ?_⟩
                    repeat' (first | exact trivial | exact .inl (DLe.refl _) | exact .inl (DLe.nil _ _) | (refine .inr ⟨rfl, _, ?_, rfl⟩; rfl) | exact rfl | exact Nat.zero_le _ | constructor)
            · conv => whnf
              refine ⟨?_, trivial⟩
              · conv => whnf
                refine ⟨?_, trivial⟩
                · conv => whnf
                  refine CallVC.obs hp1 rfl rfl ?_
                  rintro _ _ S1 ⟨rfl, rfl⟩
                  refine ⟨?_, trivial⟩
                  · conv => whnf
                    refine CallVC.ob hp2 rfl rfl rfl ?_
                    rintro _ _ ⟨rfl, S', rfl, hr'⟩
                    conv => whnf
                    refine ⟨⟨(S1, S'), hr'⟩, [], [], ?_⟩
                    repeat' (first | exact trivial | exact .inl (DLe.refl _) | exact .inl (DLe.nil _ _) | (refine .inr ⟨rfl, _, ?_, rfl⟩; rfl) | exact rfl | exact Nat.zero_le _ | constructor)
          · conv => whnf
            refine ⟨?_, ?_, trivial⟩
            · conv => whnf
              refine ⟨?_, ?_, trivial⟩
              · conv => whnf
                refine CallVC.obs hp1 rfl rfl ?_
                rintro _ _ S1 ⟨rfl, rfl⟩
                refine ⟨?_, trivial⟩
                · conv => whnf
                  refine ⟨?_, trivial⟩
                  · conv => whnf
                    refine CallVC.ob hp2 rfl rfl rfl ?_
                    rintro _ _ ⟨rfl, S', rfl, hr'⟩
                    conv => whnf
                    refine ⟨⟨(S1, S'), hr'⟩, [], [], ?_⟩
                    repeat' (first | exact trivial | exact .inl (DLe.refl _) | exact .inl (DLe.nil _ _) | (refine .inr ⟨rfl, _, ?_, rfl⟩; rfl) | exact rfl | exact Nat.zero_le _ | constructor)
              · conv => whnf
                refine ⟨?_, trivial⟩
                · conv => whnf
                  refine CallVC.obs hp1 rfl rfl ?_
                  rintro _ _ S1 ⟨rfl, rfl⟩
                  refine ⟨?_, trivial⟩
                  · conv => whnf
                    refine CallVC.ob hp2 rfl rfl rfl ?_
                    rintro _ _ ⟨rfl, S', rfl, hr'⟩
                    conv => whnf
                    refine ⟨⟨(S1, S'), hr'⟩, [], [], ?_⟩
                    repeat' (first | exact trivial | exact .inl (DLe.refl _) | exact .inl (DLe.nil _ _) | (refine .inr ⟨rfl, _, ?_, rfl⟩; rfl) | exact rfl | exact Nat.zero_le _ | constructor)
            · conv => whnf
              refine ⟨?_, trivial⟩
              · conv => whnf
                refine ⟨?_, trivial⟩
                · conv => whnf
                  refine CallVC.obs hp1 rfl rfl ?_
                  rintro _ _ S1 ⟨rfl, rfl⟩
                  refine ⟨?_, trivial⟩
                  · conv => whnf
                    refine CallVC.ob hp2 rfl rfl rfl ?_
                    rintro _ _ ⟨rfl, S', rfl, hr'⟩
                    conv => whnf
                    refine ⟨⟨(S1, S'), hr'⟩, [], [], ?_⟩
                    repeat' (first | exact trivial | exact .inl (DLe.refl _) | exact .inl (DLe.nil _ _) | (refine .inr ⟨rfl, _, ?_, rfl⟩; rfl) | exact rfl | exact Nat.zero_le _ | constructor)
          · conv => whnf
            refine ⟨?_, ?_, trivial⟩
            · conv => whnf
              refine ⟨?_, trivial⟩
              · conv => whnf
                refine ⟨?_, trivial⟩
                · conv => whnf
                  refine CallVC.obs hp1 rfl rfl ?_
                  rintro _ _ S1 ⟨rfl, rfl⟩
                  refine ⟨?_, trivial⟩
                  · conv => whnf
                    refine CallVC.ob hp2 rfl rfl rfl ?_
                    rintro _ _ ⟨rfl, S', rfl, hr'⟩
                    conv => whnf
                    refine ⟨⟨(S1, S'), hr'⟩, [], [], ?_⟩
                    repeat' (first | exact trivial | exact .inl (DLe.refl _) | exact .inl (DLe.nil _ _) | (refine .inr ⟨rfl, _, ?_, rfl⟩; rfl) | exact rfl | exact Nat.zero_le _ | constructor)
            · conv => whnf
              refine ⟨?_, trivial⟩
              · conv => whnf
                refine ⟨?_, trivial⟩
                · conv => whnf
                  refine CallVC.obs hp1 rfl rfl ?_
                  rintro _ _ S1 ⟨rfl, rfl⟩
                  refine ⟨?_, trivial⟩
                  · conv => whnf
                    refine CallVC.ob hp2 rfl rfl rfl ?_
                    rintro _ _ ⟨rfl, S', rfl, hr'⟩
                    conv => whnf
                    refine ⟨⟨(S1, S'), hr'⟩, [], [], ?_⟩
                    repeat' (first | exact trivial | exact .inl (DLe.refl _) | exact .inl (DLe.nil _ _) | (refine .inr ⟨rfl, _, ?_, rfl⟩; rfl) | exact rfl | exact Nat.zero_le _ | constructor)
      · obtain ⟨⟨S1, S'⟩, hr'⟩ := b
        dsimp only at hr' ⊢
        conv => whnf
        rw [show (!decide (r = r)) = false by simp]
        have hr2 := hr'
        obtain ⟨hsz, hn256⟩ := hr2.size
        have hL2 : 0 < L'.length ∧ L'.length ≤ 256 := ⟨hr2.ok.ok.pos, hr2.ok.le⟩
        have hg := sl_look (get_fn lo hi L' n' hr2.ok hdk.f) (hasB (by kernel_rfl))
        have hall := sl_look (all_fn lo hi L' n' hr2.ok S' hr2.so hr2.perm) (hasB (by kernel_rfl))
        have hlen := sl_look (len_fn lo hi L' n') (hasB (by kernel_rfl))
        have hfnd := rfind_fn N S' (by omega) y.f
        have hsame := same_fn S' S' (by omega)
        cases hq : fnd L' y.f (homeN lo hi L'.length y.f) L'.length 0 with
        | mk p q =>
        obtain ⟨m, b⟩ := q
        rw [hq] at hg
        cases b with
        | true =>
          obtain ⟨j, hj1, hj2⟩ := hr2.find_is hq
          have hfi : findI (isFl y.f) S' = (j : Int) := by unfold findI; rw [hj1]
          have hjl := (List.getElem?_eq_some_iff.1 hj2).1
          rw [hfi] at hfnd
          conv => whnf
          refine CallVC.look hg rfl ?_
          rintro _ rfl
          conv => whnf
          refine CallVC.look hfnd rfl ?_
          rintro _ rfl
          conv => whnf
          refine ⟨rfl, ⟨Int.natCast_nonneg _, Int.ofNat_lt.2 hjl⟩, fun y hy => ?_⟩
          obtain rfl : y = enS (at_ L' p) := by rw [Int.toNat_natCast, hj2] at hy; injection hy with hy; exact hy.symm
          conv => whnf
          rw [show (!decide ((at_ L' p).v = (enS (at_ L' p)).at_)) = false by simp [enS]]
          conv => whnf
          refine CallVC.look hlen rfl ?_
          rintro _ rfl
          conv => whnf
          rw [hsz, show (!decide ((n' : Int) = (n' : Int))) = false by simp]
          conv => whnf
          refine CallVC.look hall rfl ?_
          rintro _ rfl
          conv => whnf
          refine CallVC.pure hsame rfl ?_
          rintro _ rfl
          rw [decide_eq_true (rfl : S' = S')]
          conv => whnf
          rw [hwk]
          refine ⟨⟨k + 1, L', n', S', S1⟩, [], [], ?_, ⟨by show k + 1 ≤ _; omega, hr2⟩, by show l.length - (k + 1) < l.length - k; omega⟩
          repeat' (first | exact trivial | exact .inl (DLe.refl _) | exact .inl (DLe.nil _ _) | (refine .inr ⟨rfl, _, ?_, rfl⟩; rfl) | exact rfl | exact Nat.zero_le _ | constructor)
        | false =>
          have hfi : findI (isFl y.f) S' = -1 := by unfold findI; rw [hr2.find_not hq]
          rw [hfi] at hfnd
          conv => whnf
          refine CallVC.look hg rfl ?_
          rintro _ rfl
          conv => whnf
          refine CallVC.look hfnd rfl ?_
          rintro _ rfl
          conv => whnf
          refine CallVC.look hlen rfl ?_
          rintro _ rfl
          conv => whnf
          rw [hsz, show (!decide ((n' : Int) = (n' : Int))) = false by simp]
          conv => whnf
          refine CallVC.look hall rfl ?_
          rintro _ rfl
          conv => whnf
          refine CallVC.pure hsame rfl ?_
          rintro _ rfl
          rw [decide_eq_true (rfl : S' = S')]
          conv => whnf
          rw [hwk]
          refine ⟨⟨k + 1, L', n', S', S1⟩, [], [], ?_, ⟨by show k + 1 ≤ _; omega, hr2⟩, by show l.length - (k + 1) < l.length - k; omega⟩
          repeat' (first | exact trivial | exact .inl (DLe.refl _) | exact .inl (DLe.nil _ _) | (refine .inr ⟨rfl, _, ?_, rfl⟩; rfl) | exact rfl | exact Nat.zero_le _ | constructor)
    | false =>
    cases g4 : decide (y.kind = 1) with
    | true =>
      obtain ⟨b0, S', hd1, hd2⟩ := drop_rel hr hdk.f
      conv => whnf
      rw [g4]
      conv => whnf
      refine ⟨{b : (Nat → Prop) × List Sl × Nat // SRel lo hi N b.2.1 b.2.2 S'}, fun b => ⟨[(71, boolD (!(b0 == b0))), (10, .loc 3 0), (9, intD k), (8, .loc 2 0), (7, .loc 1 0), (2, rowsE l)], [(3, .cells 35 (deD y)), (1, .obj (.sep b.val.1 (slA lo hi b.val.2.1 b.val.2.2))), (2, .cells 43 (rX N S'))], 4, ([], 0)⟩, ?_, fun b => ?_⟩
      · conv => whnf
        refine ⟨?_, ?_, trivial⟩
        · conv => whnf
          refine ⟨?_, ?_, trivial⟩
          · conv => whnf
            refine CallVC.obs hd1 rfl rfl ?_
            rintro _ _ S1 ⟨rfl, L', n', rfl, hr'⟩
            refine ⟨?_, trivial⟩
            · conv => whnf
              refine ⟨?_, trivial⟩
              · conv => whnf
                refine CallVC.ob hd2 rfl rfl rfl ?_
                rintro _ _ ⟨rfl, rfl⟩
                conv => whnf
                refine ⟨⟨(S1, L', n'), hr'⟩, [], [], ?_⟩
                repeat' (first | exact trivial | exact .inl (DLe.refl _) | exact .inl (DLe.nil _ _) | (refine .inr ⟨rfl, _, ?_, rfl⟩; rfl) | exact rfl | exact Nat.zero_le _ | constructor)
          · conv => whnf
            refine ⟨?_, trivial⟩
            · conv => whnf
              refine CallVC.obs hd1 rfl rfl ?_
              rintro _ _ S1 ⟨rfl, L', n', rfl, hr'⟩
              refine ⟨?_, trivial⟩
              · conv => whnf
                refine CallVC.ob hd2 rfl rfl rfl ?_
                rintro _ _ ⟨rfl, rfl⟩
                conv => whnf
                refine ⟨⟨(S1, L', n'), hr'⟩, [], [], ?_⟩
                repeat' (first | exact trivial | exact .inl (DLe.refl _) | exact .inl (DLe.nil _ _) | (refine .inr ⟨rfl, _, ?_, rfl⟩; rfl) | exact rfl | exact Nat.zero_le _ | constructor)
        · conv => whnf
          refine ⟨?_, trivial⟩
          · conv => whnf
            refine ⟨?_, trivial⟩
            · conv => whnf
              refine CallVC.obs hd1 rfl rfl ?_
              rintro _ _ S1 ⟨rfl, L', n', rfl, hr'⟩
              refine ⟨?_, trivial⟩
              · conv => whnf
                refine CallVC.ob hd2 rfl rfl rfl ?_
                rintro _ _ ⟨rfl, rfl⟩
                conv => whnf
                refine ⟨⟨(S1, L', n'), hr'⟩, [], [], ?_⟩
                repeat' (first | exact trivial | exact .inl (DLe.refl _) | exact .inl (DLe.nil _ _) | (refine .inr ⟨rfl, _, ?_, rfl⟩; rfl) | exact rfl | exact Nat.zero_le _ | constructor)
      · obtain ⟨⟨S1, L', n'⟩, hr'⟩ := b
        dsimp only at hr' ⊢
        conv => whnf
        rw [show (!(b0 == b0)) = false by simp]
        have hr2 := hr'
        obtain ⟨hsz, hn256⟩ := hr2.size
        have hL2 : 0 < L'.length ∧ L'.length ≤ 256 := ⟨hr2.ok.ok.pos, hr2.ok.le⟩
        have hg := sl_look (get_fn lo hi L' n' hr2.ok hdk.f) (hasB (by kernel_rfl))
        have hall := sl_look (all_fn lo hi L' n' hr2.ok S' hr2.so hr2.perm) (hasB (by kernel_rfl))
        have hlen := sl_look (len_fn lo hi L' n') (hasB (by kernel_rfl))
        have hfnd := rfind_fn N S' (by omega) y.f
        have hsame := same_fn S' S' (by omega)
        cases hq : fnd L' y.f (homeN lo hi L'.length y.f) L'.length 0 with
        | mk p q =>
        obtain ⟨m, b⟩ := q
        rw [hq] at hg
        cases b with
        | true =>
          obtain ⟨j, hj1, hj2⟩ := hr2.find_is hq
          have hfi : findI (isFl y.f) S' = (j : Int) := by unfold findI; rw [hj1]
          have hjl := (List.getElem?_eq_some_iff.1 hj2).1
          rw [hfi] at hfnd
          conv => whnf
          refine CallVC.look hg rfl ?_
          rintro _ rfl
          conv => whnf
          refine CallVC.look hfnd rfl ?_
          rintro _ rfl
          conv => whnf
          refine ⟨rfl, ⟨Int.natCast_nonneg _, Int.ofNat_lt.2 hjl⟩, fun y hy => ?_⟩
          obtain rfl : y = enS (at_ L' p) := by rw [Int.toNat_natCast, hj2] at hy; injection hy with hy; exact hy.symm
          conv => whnf
          rw [show (!decide ((at_ L' p).v = (enS (at_ L' p)).at_)) = false by simp [enS]]
          conv => whnf
          refine CallVC.look hlen rfl ?_
          rintro _ rfl
          conv => whnf
          rw [hsz, show (!decide ((n' : Int) = (n' : Int))) = false by simp]
          conv => whnf
          refine CallVC.look hall rfl ?_
          rintro _ rfl
          conv => whnf
          refine CallVC.pure hsame rfl ?_
          rintro _ rfl
          rw [decide_eq_true (rfl : S' = S')]
          conv => whnf
          rw [hwk]
          refine ⟨⟨k + 1, L', n', S', S1⟩, [], [], ?_, ⟨by show k + 1 ≤ _; omega, hr2⟩, by show l.length - (k + 1) < l.length - k; omega⟩
          repeat' (first | exact trivial | exact .inl (DLe.refl _) | exact .inl (DLe.nil _ _) | (refine .inr ⟨rfl, _, ?_, rfl⟩; rfl) | exact rfl | exact Nat.zero_le _ | constructor)
        | false =>
          have hfi : findI (isFl y.f) S' = -1 := by unfold findI; rw [hr2.find_not hq]
          rw [hfi] at hfnd
          conv => whnf
          refine CallVC.look hg rfl ?_
          rintro _ rfl
          conv => whnf
          refine CallVC.look hfnd rfl ?_
          rintro _ rfl
          conv => whnf
          refine CallVC.look hlen rfl ?_
          rintro _ rfl
          conv => whnf
          rw [hsz, show (!decide ((n' : Int) = (n' : Int))) = false by simp]
          conv => whnf
          refine CallVC.look hall rfl ?_
          rintro _ rfl
          conv => whnf
          refine CallVC.pure hsame rfl ?_
          rintro _ rfl
          rw [decide_eq_true (rfl : S' = S')]
          conv => whnf
          rw [hwk]
          refine ⟨⟨k + 1, L', n', S', S1⟩, [], [], ?_, ⟨by show k + 1 ≤ _; omega, hr2⟩, by show l.length - (k + 1) < l.length - k; omega⟩
          repeat' (first | exact trivial | exact .inl (DLe.refl _) | exact .inl (DLe.nil _ _) | (refine .inr ⟨rfl, _, ?_, rfl⟩; rfl) | exact rfl | exact Nat.zero_le _ | constructor)
    | false =>
      conv => whnf
      rw [g4]
      have hr2 := hr
      obtain ⟨hsz, hn256⟩ := hr2.size
      have hL2 : 0 < L.length ∧ L.length ≤ 256 := ⟨hr2.ok.ok.pos, hr2.ok.le⟩
      have hg := sl_look (get_fn lo hi L n hr2.ok hdk.f) (hasB (by kernel_rfl))
      have hall := sl_look (all_fn lo hi L n hr2.ok S hr2.so hr2.perm) (hasB (by kernel_rfl))
      have hlen := sl_look (len_fn lo hi L n) (hasB (by kernel_rfl))
      have hfnd := rfind_fn N S (by omega) y.f
      have hsame := same_fn S S (by omega)
      cases hq : fnd L y.f (homeN lo hi L.length y.f) L.length 0 with
      | mk p q =>
      obtain ⟨m, b⟩ := q
      rw [hq] at hg
      cases b with
      | true =>
        obtain ⟨j, hj1, hj2⟩ := hr2.find_is hq
        have hfi : findI (isFl y.f) S = (j : Int) := by unfold findI; rw [hj1]
        have hjl := (List.getElem?_eq_some_iff.1 hj2).1
        rw [hfi] at hfnd
        conv => whnf
        refine CallVC.look hg rfl ?_
        rintro _ rfl
        conv => whnf
        refine CallVC.look hfnd rfl ?_
        rintro _ rfl
        conv => whnf
        refine ⟨rfl, ⟨Int.natCast_nonneg _, Int.ofNat_lt.2 hjl⟩, fun y hy => ?_⟩
        obtain rfl : y = enS (at_ L p) := by rw [Int.toNat_natCast, hj2] at hy; injection hy with hy; exact hy.symm
        conv => whnf
        rw [show (!decide ((at_ L p).v = (enS (at_ L p)).at_)) = false by simp [enS]]
        conv => whnf
        refine CallVC.look hlen rfl ?_
        rintro _ rfl
        conv => whnf
        rw [hsz, show (!decide ((n : Int) = (n : Int))) = false by simp]
        conv => whnf
        refine CallVC.look hall rfl ?_
        rintro _ rfl
        conv => whnf
        refine CallVC.pure hsame rfl ?_
        rintro _ rfl
        rw [decide_eq_true (rfl : S = S)]
        conv => whnf
        rw [hwk]
        refine ⟨⟨k + 1, L, n, S, F⟩, [], [], ?_, ⟨by show k + 1 ≤ _; omega, hr2⟩, by show l.length - (k + 1) < l.length - k; omega⟩
        repeat' (first | exact trivial | exact .inl (DLe.refl _) | exact .inl (DLe.nil _ _) | (refine .inr ⟨rfl, _, ?_, rfl⟩; rfl) | exact rfl | exact Nat.zero_le _ | constructor)
      | false =>
        have hfi : findI (isFl y.f) S = -1 := by unfold findI; rw [hr2.find_not hq]
        rw [hfi] at hfnd
        conv => whnf
        refine CallVC.look hg rfl ?_
        rintro _ rfl
        conv => whnf
        refine CallVC.look hfnd rfl ?_
        rintro _ rfl
        conv => whnf
        refine CallVC.look hlen rfl ?_
        rintro _ rfl
        conv => whnf
        rw [hsz, show (!decide ((n : Int) = (n : Int))) = false by simp]
        conv => whnf
        refine CallVC.look hall rfl ?_
        rintro _ rfl
        conv => whnf
        refine CallVC.pure hsame rfl ?_
        rintro _ rfl
        rw [decide_eq_true (rfl : S = S)]
        conv => whnf
        rw [hwk]
        refine ⟨⟨k + 1, L, n, S, F⟩, [], [], ?_, ⟨by show k + 1 ≤ _; omega, hr2⟩, by show l.length - (k + 1) < l.length - k; omega⟩
        repeat' (first | exact trivial | exact .inl (DLe.refl _) | exact .inl (DLe.nil _ _) | (refine .inr ⟨rfl, _, ?_, rfl⟩; rfl) | exact rfl | exact Nat.zero_le _ | constructor)
end Go.Proofs.Ytcbpdjikdohegaa.V
