/-
  The plain law of the wheel: what its rows, its map and a row of alarms have in common, deed by deed. No condition.
-/
import Derived.Test.YtcbpdjikdohegaaWcK
namespace Go.Proofs.Ytcbpdjikdohegaa.V
open Go.RowKit

theorem upd_same (R : Nat → List Al) (k : Nat) (l : List Al) : upd R k l k = l := by unfold upd; rw [Nat.beq_refl]
theorem upd_ne (R : Nat → List Al) {k j : Nat} (l : List Al) (h : j ≠ k) : upd R k l j = R j := by
  unfold upd
  cases hb : Nat.beq j k with
  | true => exact absurd (Nat.eq_of_beq_eq_true hb) h
  | false => rfl

/-- All alarms on the wheel. -/
def allR (R : Nat → List Al) : List Al := (List.range 48).flatMap R
theorem flat_upd (R : Nat → List Al) (k : Nat) (l : List Al) : ∀ ks : List Nat, ks.Nodup → k ∈ ks → (ks.flatMap (upd R k l)).Perm (l ++ ks.flatMap (upd R k []))
  | [], _, h => by cases h
  | i :: ks, hn, h => by
    have hn' := List.nodup_cons.1 hn
    rw [List.flatMap_cons, List.flatMap_cons]
    by_cases hi : i = k
    · subst hi
      rw [upd_same, upd_same, List.nil_append]
      have : ks.flatMap (upd R i l) = ks.flatMap (upd R i []) := by
        rw [List.flatMap_def, List.flatMap_def]
        congr 1
        exact List.map_congr_left fun j hj => by
          have : j ≠ i := fun e => hn'.1 (e ▸ hj)
          rw [upd_ne _ _ this, upd_ne _ _ this]
      rw [this]
    · have hk : k ∈ ks := by
        rcases List.mem_cons.1 h with h | h
        · exact absurd h.symm hi
        · exact h
      rw [upd_ne _ _ hi, upd_ne _ _ hi]
      refine ((flat_upd R k l ks hn'.2 hk).append_left (R i)).trans ?_
      rw [← List.append_assoc, ← List.append_assoc]
      exact List.perm_append_comm.append_right _
theorem upd_upd (R : Nat → List Al) (k : Nat) (l m : List Al) : upd (upd R k l) k m = upd R k m := by
  funext j
  by_cases h : j = k
  · subst h; rw [upd_same, upd_same]
  · rw [upd_ne _ _ h, upd_ne _ _ h, upd_ne _ _ h]
theorem upd_self (R : Nat → List Al) (k : Nat) : upd R k (R k) = R := by
  funext j
  by_cases h : j = k
  · subst h; rw [upd_same]
  · rw [upd_ne _ _ h]
theorem allR_upd (R : Nat → List Al) {k : Nat} (hk : k < 48) (l : List Al) : (allR (upd R k l)).Perm (l ++ allR (upd R k [])) :=
  flat_upd R k l _ List.nodup_range (List.mem_range.2 hk)
theorem allR_out (R : Nat → List Al) {k : Nat} (hk : k < 48) : (allR R).Perm (R k ++ allR (upd R k [])) := by
  have := allR_upd R hk (R k)
  rwa [upd_self] at this
theorem allR_push (R : Nat → List Al) {k : Nat} (hk : k < 48) (a : Al) : (allR (upd R k (R k ++ [a]))).Perm (a :: allR R) := by
  refine (allR_upd R hk _).trans ?_
  have h1 : (R k ++ [a] ++ allR (upd R k [])).Perm ([a] ++ (R k ++ allR (upd R k []))) := by
    rw [← List.append_assoc]; exact List.perm_append_comm.append_right _
  exact h1.trans ((allR_out R hk).symm.cons a)
theorem mem_allR {R : Nat → List Al} {a : Al} : a ∈ allR R ↔ ∃ k, k < 48 ∧ a ∈ R k := by
  unfold allR
  simp only [List.mem_flatMap, List.mem_range]

/-- Where an alarm may stand: rows begin at, and end with, these numbers. -/
def okX (now lo0 lo1 hi1 lo2 hi2 : Int) (k : Nat) (a : Al) : Prop :=
  (k < 16 ∧ lo0 ≤ a.at_ ∧ a.at_ < now + 16 ∧ a.at_ % 16 = k) ∨
  (16 ≤ k ∧ k < 32 ∧ lo1 ≤ a.at_ / 16 ∧ a.at_ / 16 ≤ hi1 ∧ a.at_ / 16 % 16 = (k : Int) - 16) ∨
  (32 ≤ k ∧ k < 48 ∧ lo2 ≤ a.at_ / 256 ∧ a.at_ / 256 ≤ hi2 ∧ a.at_ / 256 % 16 = (k : Int) - 32)
def okAt (now : Int) : Nat → Al → Prop := okX now (now + 1) (now / 16 + 1) (now / 16 + 16) (now / 256 + 1) (now / 256 + 16)

theorem plc_eq {now t : Int} (h0 : 0 ≤ t) : (t - now < 16 ∧ (plc now t : Int) = t % 16) ∨ (16 ≤ t - now ∧ t - now < 256 ∧ (plc now t : Int) = 16 + t / 16 % 16) ∨ (256 ≤ t - now ∧ (plc now t : Int) = 32 + t / 256 % 16) := by
  have e1 : t.tmod 16 = t % 16 := Int.tmod_eq_emod_of_nonneg h0
  have e2 : (t.tdiv 16).tmod 16 = t / 16 % 16 := by rw [Int.tdiv_eq_ediv_of_nonneg h0, Int.tmod_eq_emod_of_nonneg (by omega)]
  have e3 : (t.tdiv 256).tmod 16 = t / 256 % 16 := by rw [Int.tdiv_eq_ediv_of_nonneg h0, Int.tmod_eq_emod_of_nonneg (by omega)]
  unfold plc plr plp
  cases h1 : decide (t - now < 16) with
  | true =>
    have := of_decide_eq_true h1
    refine .inl ⟨this, ?_⟩
    simp only [e1]; omega
  | false =>
    have h1 := of_decide_eq_false h1
    refine .inr ?_
    cases h2 : decide (t - now < 256) with
    | true =>
      have := of_decide_eq_true h2
      refine .inl ⟨by omega, this, ?_⟩
      simp only [e2]; omega
    | false =>
      have h2 := of_decide_eq_false h2
      refine .inr ⟨by omega, ?_⟩
      simp only [e3]; omega
theorem plc_lt {now t : Int} (h0 : 0 ≤ t) : plc now t < 48 := by
  rcases plc_eq (now := now) h0 with ⟨_, h⟩ | ⟨_, _, h⟩ | ⟨_, h⟩ <;> omega

/-- What holds of a wheel: its tick, its rows, its map, the alarms that are set. -/
structure WInv (now : Int) (R : Nat → List Al) (M : List ME) (L : List Al) : Prop where
  n0 : 0 ≤ now
  row : ∀ k a, a ∈ R k → okAt now k a
  perm : (allR R).Perm L
  keys : L.Pairwise fun a b => a.id ≠ b.id
  map : ∀ n v, mfind n M = some v ↔ ∃ a, a ∈ L ∧ a.id = n ∧ a.at_ = v
  mkeys : M.Pairwise fun a b => a.1 ≠ b.1
  len : M.length = L.length

theorem okAt_lt {now : Int} {k : Nat} {a : Al} (h : okAt now k a) : now < a.at_ ∧ k < 48 := by
  unfold okAt okX at h
  rcases h with ⟨h1, h2, h3, h4⟩ | ⟨h1, h2, h3, h4, h5⟩ | ⟨h1, h2, h3, h4, h5⟩ <;> omega
theorem WInv.due {now : Int} {R : Nat → List Al} {M : List ME} {L : List Al} (h : WInv now R M L) {a : Al} (ha : a ∈ L) : now < a.at_ := by
  obtain ⟨k, _, hk⟩ := mem_allR.1 (h.perm.mem_iff.2 ha)
  exact (okAt_lt (h.row k a hk)).1
theorem WInv.perm_of {now : Int} {R : Nat → List Al} {M : List ME} {L L' : List Al} (h : WInv now R M L) (hp : L.Perm L') : WInv now R M L' :=
  ⟨h.n0, h.row, h.perm.trans hp, (List.Perm.pairwise_iff (fun {a b} h => Ne.symm h) hp).1 h.keys, (fun n v => (h.map n v).trans (Iff.intro (fun ⟨a, h1, h2⟩ => ⟨a, hp.mem_iff.1 h1, h2⟩) (fun ⟨a, h1, h2⟩ => ⟨a, hp.mem_iff.2 h1, h2⟩))), h.mkeys, h.len.trans hp.length_eq⟩
theorem WInv.has {now : Int} {R : Nat → List Al} {M : List ME} {L : List Al} (h : WInv now R M L) (n : Int) : (mfind n M).isSome = L.any (isId n) := by
  cases hm : mfind n M with
  | some v =>
    obtain ⟨a, h1, h2, _⟩ := (h.map n v).1 hm
    exact (List.any_eq_true.2 ⟨a, h1, decide_eq_true h2⟩).symm
  | none =>
    refine (List.any_eq_false.2 fun a ha => ?_).symm
    intro hid
    have := (h.map n a.at_).2 ⟨a, ha, of_decide_eq_true hid, rfl⟩
    rw [hm] at this; cases this
theorem WInv.rows_len {now : Int} {R : Nat → List Al} {M : List ME} {L : List Al} (h : WInv now R M L) (k : Nat) : (R k).length ≤ L.length := by
  by_cases hk : k < 48
  · have := (allR_out R hk).length_eq
    rw [List.length_append, h.perm.length_eq] at this
    omega
  · have : R k = [] := List.eq_nil_iff_forall_not_mem.2 fun a ha => hk (okAt_lt (h.row k a ha)).2
    rw [this]; exact Nat.zero_le _

theorem winv_new (now : Int) (h : 0 ≤ now) : WInv now (fun _ => []) [] [] :=
  ⟨h, (fun _ _ h => by cases h), (by unfold allR; decide), .nil, (fun n v => Iff.intro (fun h => by cases h) (fun ⟨_, h, _⟩ => by cases h)), .nil, rfl⟩

/-- An alarm is set. -/
theorem WInv.set {now : Int} {R : Nat → List Al} {M : List ME} {L : List Al} (h : WInv now R M L) {a : Al} (c : Nat) (hs : setW now M a = true) :
    WInv now (upd R (plc now a.at_) (R (plc now a.at_) ++ [a])) (M ++ [(a.id, a.at_, c)]) (a :: L) := by
  have hn0 := h.n0
  obtain ⟨h1, h2, h3⟩ : now < a.at_ ∧ a.at_ ≤ now + 4095 ∧ mfind a.id M = none := by
    unfold setW at hs
    split at hs
    · cases hs
    · rename_i g1; have g1 := of_decide_eq_false g1
      split at hs
      · cases hs
      · rename_i g2; have g2 := of_decide_eq_false g2
        split at hs
        · cases hs
        · rename_i g3
          exact ⟨by omega, by omega, by simpa using g3⟩
  have hlt : plc now a.at_ < 48 := plc_lt (by omega)
  have hnew : ∀ x, x ∈ L → a.id ≠ x.id := fun x hx e => by
    have := (h.map a.id x.at_).2 ⟨x, hx, e.symm, rfl⟩
    rw [h3] at this; cases this
  refine ⟨hn0, fun k x hx => ?_, (allR_push R hlt a).trans (h.perm.cons a), List.pairwise_cons.2 ⟨hnew, h.keys⟩, fun n v => ?_, ?_, by simp [h.len]⟩
  · by_cases hk : k = plc now a.at_
    · subst hk
      rw [upd_same] at hx
      rcases List.mem_append.1 hx with hx | hx
      · exact h.row _ x hx
      · obtain rfl : x = a := by simpa using hx
        unfold okAt okX
        rcases plc_eq (now := now) (t := x.at_) (by omega) with ⟨g1, g2⟩ | ⟨g1, g2, g3⟩ | ⟨g1, g2⟩
        · exact .inl ⟨by omega, by omega, by omega, by omega⟩
        · exact .inr (.inl ⟨by omega, by omega, by omega, by omega, by omega⟩)
        · exact .inr (.inr ⟨by omega, by omega, by omega, by omega, by omega⟩)
    · rw [upd_ne _ _ hk] at hx; exact h.row k x hx
  · rw [mfind_push]
    cases hm : mfind n M with
    | some u =>
      simp only [Option.some.injEq]
      constructor
      · rintro rfl
        obtain ⟨x, g1, g2⟩ := (h.map n u).1 hm
        exact ⟨x, .tail _ g1, g2⟩
      · rintro ⟨x, g1, g2, g3⟩
        rcases List.mem_cons.1 g1 with rfl | g1
        · rw [g2, hm] at h3; cases h3
        · have := (h.map n v).2 ⟨x, g1, g2, g3⟩
          rw [hm] at this; injection this
    | none =>
      simp only
      by_cases hn : n = a.id
      · rw [if_pos hn]
        constructor
        · intro hv; injection hv with hv; exact ⟨a, .head _, hn.symm, hv⟩
        · rintro ⟨x, g1, g2, g3⟩
          rcases List.mem_cons.1 g1 with rfl | g1
          · rw [g3]
          · exact absurd (g2.trans hn).symm (hnew x g1)
      · rw [if_neg hn]
        constructor
        · intro hv; cases hv
        · rintro ⟨x, g1, g2, g3⟩
          rcases List.mem_cons.1 g1 with rfl | g1
          · exact absurd g2.symm hn
          · have := (h.map n v).2 ⟨x, g1, g2, g3⟩
            rw [hm] at this; cases this
  · refine List.pairwise_append.2 ⟨h.mkeys, List.pairwise_singleton _ _, fun x hx y hy => ?_⟩
    obtain rfl : y = (a.id, a.at_, c) := by simpa using hy
    intro e
    have hmem : ∀ (M : List ME), x ∈ M → (mfind x.1 M).isSome = true := by
      intro M
      induction M with
      | nil => intro h; cases h
      | cons z r ih =>
        intro hx
        rw [mfind]
        split
        · rfl
        · rename_i hne
          rcases List.mem_cons.1 hx with rfl | hx
          · exact absurd rfl hne
          · exact ih hx
    have := hmem M hx
    rw [show x.1 = a.id from e, h3] at this
    cases this

theorem mdel_mem {k : Int} {x : ME} : ∀ {M : List ME}, x ∈ mdel k M → x ∈ M
  | [], h => h
  | y :: r, h => by
    rw [mdel] at h
    split at h
    · exact .tail _ h
    · rcases List.mem_cons.1 h with rfl | h
      · exact .head _
      · exact .tail _ (mdel_mem h)
theorem mdel_keys {k : Int} : ∀ {M : List ME}, M.Pairwise (fun a b => a.1 ≠ b.1) → (mdel k M).Pairwise fun a b => a.1 ≠ b.1
  | [], h => h
  | y :: r, h => by
    rw [mdel]
    obtain ⟨h1, h2⟩ := List.pairwise_cons.1 h
    split
    · exact h2
    · exact List.pairwise_cons.2 ⟨fun x hx => h1 x (mdel_mem hx), mdel_keys h2⟩
theorem mfind_none {k : Int} : ∀ {M : List ME}, (∀ x, x ∈ M → k ≠ x.1) → mfind k M = none
  | [], _ => rfl
  | y :: r, h => by rw [mfind, if_neg (h y (.head _))]; exact mfind_none fun x hx => h x (.tail _ hx)
theorem mdel_find {k n : Int} : ∀ {M : List ME}, M.Pairwise (fun a b => a.1 ≠ b.1) → mfind n (mdel k M) = if n = k then none else mfind n M
  | [], _ => by rw [mdel, mfind]; split <;> rfl
  | y :: r, h => by
    obtain ⟨h1, h2⟩ := List.pairwise_cons.1 h
    rw [mdel]
    by_cases hy : k = y.1
    · rw [if_pos hy]
      by_cases hn : n = k
      · rw [if_pos hn, hn, hy]; exact mfind_none h1
      · rw [if_neg hn, mfind, if_neg (by rw [← hy]; exact hn)]
    · rw [if_neg hy, mfind, mdel_find h2, mfind]
      by_cases hn : n = y.1
      · rw [if_pos hn, if_neg (by rw [hn]; exact Ne.symm hy), if_pos hn]
      · rw [if_neg hn, if_neg hn]
theorem mdel_len {k : Int} : ∀ {M : List ME}, (mdel k M).length = if (mfind k M).isSome then M.length - 1 else M.length
  | [] => rfl
  | y :: r => by
    rw [mdel, mfind]
    by_cases hy : k = y.1
    · rw [if_pos hy, if_pos hy]; rfl
    · rw [if_neg hy, if_neg hy, List.length_cons, mdel_len, List.length_cons]
      have : (mfind k r).isSome → 0 < r.length := by cases r with
        | nil => intro h; cases h
        | cons _ _ => intro _; simp
      split
      · rename_i hs; have := this hs; omega
      · rfl

theorem filter_flat (p : Al → Bool) (R : Nat → List Al) (ks : List Nat) : (ks.flatMap fun j => (R j).filter p) = (ks.flatMap R).filter p := by
  induction ks with
  | nil => rfl
  | cons k r ih => rw [List.flatMap_cons, List.flatMap_cons, List.filter_append, ih]

/-- The row without an alarm. -/
def outOf (n : Int) (L : List Al) : List Al := L.filter fun a => !isId n a
theorem outOf_len {n : Int} : ∀ {L : List Al}, L.Pairwise (fun a b => a.id ≠ b.id) → (outOf n L).length = if L.any (isId n) then L.length - 1 else L.length
  | [], _ => rfl
  | a :: r, h => by
    obtain ⟨h1, h2⟩ := List.pairwise_cons.1 h
    have ih := outOf_len (n := n) h2
    unfold outOf at *
    cases ha : isId n a with
    | true =>
      have hid := of_decide_eq_true ha
      have hno : r.any (isId n) = false := List.any_eq_false.2 fun x hx e => h1 x hx (hid.trans (of_decide_eq_true e).symm)
      rw [List.filter_cons_of_neg (by simp [ha]), List.any_cons, ha, Bool.true_or, if_pos rfl, ih, hno]
      simp
    | false =>
      rw [List.filter_cons_of_pos (by simp [ha]), List.any_cons, ha, Bool.false_or, List.length_cons, ih, List.length_cons]
      have : r.any (isId n) = true → 0 < r.length := by cases r with
        | nil => intro h; cases h
        | cons _ _ => intro _; simp
      split
      · rename_i hs; have := this hs; omega
      · rfl

/-- An alarm is stopped. -/
theorem WInv.stop {now : Int} {R : Nat → List Al} {M : List ME} {L : List Al} (h : WInv now R M L) (n : Int) : WInv now (fun j => outOf n (R j)) (mdel n M) (outOf n L) := by
  refine ⟨h.n0, fun k a ha => h.row k a ((List.mem_filter.1 ha).1), ?_, h.keys.sublist List.filter_sublist, fun m v => ?_, mdel_keys h.mkeys, ?_⟩
  · unfold allR outOf
    rw [filter_flat]
    exact h.perm.filter _
  · rw [mdel_find h.mkeys]
    unfold outOf
    by_cases hm : m = n
    · rw [if_pos hm]
      constructor
      · intro e; cases e
      · rintro ⟨a, h1, h2, _⟩
        have := (List.mem_filter.1 h1).2
        simp [isId, h2, hm] at this
    · rw [if_neg hm, h.map m v]
      constructor
      · rintro ⟨a, h1, h2, h3⟩
        exact ⟨a, List.mem_filter.2 ⟨h1, by simp [isId, h2, hm]⟩, h2, h3⟩
      · rintro ⟨a, h1, h2, h3⟩
        exact ⟨a, (List.mem_filter.1 h1).1, h2, h3⟩
  · rw [mdel_len, outOf_len h.keys, h.has n, h.len]
end Go.Proofs.Ytcbpdjikdohegaa.V
