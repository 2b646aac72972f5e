/-
  The plain law of the wheel: what its rows, its map and a row of alarms have in common, deed by deed. No condition.
  The plain law of the wheel: it goes on by one tick. No condition.
  Rows of alarms thinned: slices.DeleteFunc. Conditions: rows not too long.
  How long rows are on the wheel. No condition.
-/
import Derived.Test.YtcbpdjikdohegaaGreatWcK
import Derived.Test.YtcbpdjikdohegaaGreatK1
namespace Go.Proofs.YtcbpdjikdohegaaGreat.V
open Go.RowKit

theorem upd_same (R : Nat → List Al) (k : Nat) (l : List Al) : upd R k l k = l := by unfold upd; rw [Nat.beq_refl]
theorem upd_ne (R : Nat → List Al) {k j : Nat} (l : List Al) (h : j ≠ k) : upd R k l j = R j := by
  unfold upd
  cases hb : Nat.beq j k with
  | true => exact absurd (Nat.eq_of_beq_eq_true hb) h
  | false => rfl

def allR (R : Nat → List Al) : List Al := (List.range 48).flatMap R
theorem flat_upd (R : Nat → List Al) (k : Nat) (l : List Al) : ∀ ks : List Nat, ks.Nodup → k ∈ ks → (ks.flatMap (upd R k l)).Perm (l ++ ks.flatMap (upd R k []))
  | [], _, h => by cases h
  | i :: ks, hn, h => by
    have hn' := List.nodup_cons.1 hn
    rw [List.flatMap_cons, List.flatMap_cons]
    by_cases hi : i = k
    · subst hi
      rw [upd_same, upd_same, List.nil_append]
      have : ks.flatMap (upd R i l) = ks.flatMap (upd R i []) := by
        rw [List.flatMap_def, List.flatMap_def]
        congr 1
        exact List.map_congr_left fun j hj => by
          have : j ≠ i := fun e => hn'.1 (e ▸ hj)
          rw [upd_ne _ _ this, upd_ne _ _ this]
      rw [this]
    · have hk : k ∈ ks := by
        rcases List.mem_cons.1 h with h | h
        · exact absurd h.symm hi
        · exact h
      rw [upd_ne _ _ hi, upd_ne _ _ hi]
      refine ((flat_upd R k l ks hn'.2 hk).append_left (R i)).trans ?_
      rw [← List.append_assoc, ← List.append_assoc]
      exact List.perm_append_comm.append_right _
theorem upd_self (R : Nat → List Al) (k : Nat) : upd R k (R k) = R := by
  funext j
  by_cases h : j = k
  · subst h; rw [upd_same]
  · rw [upd_ne _ _ h]
theorem allR_upd (R : Nat → List Al) {k : Nat} (hk : k < 48) (l : List Al) : (allR (upd R k l)).Perm (l ++ allR (upd R k [])) :=
  flat_upd R k l _ List.nodup_range (List.mem_range.2 hk)
theorem allR_out (R : Nat → List Al) {k : Nat} (hk : k < 48) : (allR R).Perm (R k ++ allR (upd R k [])) := by
  have := allR_upd R hk (R k)
  rwa [upd_self] at this
theorem allR_push (R : Nat → List Al) {k : Nat} (hk : k < 48) (a : Al) : (allR (upd R k (R k ++ [a]))).Perm (a :: allR R) := by
  refine (allR_upd R hk _).trans ?_
  have h1 : (R k ++ [a] ++ allR (upd R k [])).Perm ([a] ++ (R k ++ allR (upd R k []))) := by
    rw [← List.append_assoc]; exact List.perm_append_comm.append_right _
  exact h1.trans ((allR_out R hk).symm.cons a)
theorem mem_allR {R : Nat → List Al} {a : Al} : a ∈ allR R ↔ ∃ k, k < 48 ∧ a ∈ R k := by
  unfold allR
  simp only [List.mem_flatMap, List.mem_range]

def okX (now lo0 lo1 hi1 lo2 hi2 : Int) (k : Nat) (a : Al) : Prop :=
  (k < 16 ∧ lo0 ≤ a.at_ ∧ a.at_ < now + 16 ∧ a.at_ % 16 = k) ∨
  (16 ≤ k ∧ k < 32 ∧ lo1 ≤ a.at_ / 16 ∧ a.at_ / 16 ≤ hi1 ∧ a.at_ / 16 % 16 = (k : Int) - 16) ∨
  (32 ≤ k ∧ k < 48 ∧ lo2 ≤ a.at_ / 256 ∧ a.at_ / 256 ≤ hi2 ∧ a.at_ / 256 % 16 = (k : Int) - 32)
def okAt (now : Int) : Nat → Al → Prop := okX now (now + 1) (now / 16 + 1) (now / 16 + 16) (now / 256 + 1) (now / 256 + 16)

theorem plc_eq {now t : Int} (h0 : 0 ≤ t) : (t - now < 16 ∧ (plc now t : Int) = t % 16) ∨ (16 ≤ t - now ∧ t - now < 256 ∧ (plc now t : Int) = 16 + t / 16 % 16) ∨ (256 ≤ t - now ∧ (plc now t : Int) = 32 + t / 256 % 16) := by
  have e1 : t.tmod 16 = t % 16 := Int.tmod_eq_emod_of_nonneg h0
  have e2 : (t.tdiv 16).tmod 16 = t / 16 % 16 := by rw [Int.tdiv_eq_ediv_of_nonneg h0, Int.tmod_eq_emod_of_nonneg (by omega)]
  have e3 : (t.tdiv 256).tmod 16 = t / 256 % 16 := by rw [Int.tdiv_eq_ediv_of_nonneg h0, Int.tmod_eq_emod_of_nonneg (by omega)]
  unfold plc plr plp
  cases h1 : decide (t - now < 16) with
  | true =>
    have := of_decide_eq_true h1
    refine .inl ⟨this, ?_⟩
    simp only [e1]; omega
  | false =>
    have h1 := of_decide_eq_false h1
    refine .inr ?_
    cases h2 : decide (t - now < 256) with
    | true =>
      have := of_decide_eq_true h2
      refine .inl ⟨by omega, this, ?_⟩
      simp only [e2]; omega
    | false =>
      have h2 := of_decide_eq_false h2
      refine .inr ⟨by omega, ?_⟩
      simp only [e3]; omega
theorem plc_lt {now t : Int} (h0 : 0 ≤ t) : plc now t < 48 := by
  rcases plc_eq (now := now) h0 with ⟨_, h⟩ | ⟨_, _, h⟩ | ⟨_, h⟩ <;> omega

structure WInv (now : Int) (R : Nat → List Al) (M : List ME) (L : List Al) : Prop where
  n0 : 0 ≤ now
  row : ∀ k a, a ∈ R k → okAt now k a
  perm : (allR R).Perm L
  keys : L.Pairwise fun a b => a.id ≠ b.id
  map : ∀ n v, mfind n M = some v ↔ ∃ a, a ∈ L ∧ a.id = n ∧ a.at_ = v
  mkeys : M.Pairwise fun a b => a.1 ≠ b.1
  len : M.length = L.length

theorem okAt_lt {now : Int} {k : Nat} {a : Al} (h : okAt now k a) : now < a.at_ ∧ k < 48 := by
  unfold okAt okX at h
  rcases h with ⟨h1, h2, h3, h4⟩ | ⟨h1, h2, h3, h4, h5⟩ | ⟨h1, h2, h3, h4, h5⟩ <;> omega
theorem WInv.due {now : Int} {R : Nat → List Al} {M : List ME} {L : List Al} (h : WInv now R M L) {a : Al} (ha : a ∈ L) : now < a.at_ := by
  obtain ⟨k, _, hk⟩ := mem_allR.1 (h.perm.mem_iff.2 ha)
  exact (okAt_lt (h.row k a hk)).1
theorem WInv.perm_of {now : Int} {R : Nat → List Al} {M : List ME} {L L' : List Al} (h : WInv now R M L) (hp : L.Perm L') : WInv now R M L' :=
  ⟨h.n0, h.row, h.perm.trans hp, (List.Perm.pairwise_iff (fun {a b} h => Ne.symm h) hp).1 h.keys, (fun n v => (h.map n v).trans (Iff.intro (fun ⟨a, h1, h2⟩ => ⟨a, hp.mem_iff.1 h1, h2⟩) (fun ⟨a, h1, h2⟩ => ⟨a, hp.mem_iff.2 h1, h2⟩))), h.mkeys, h.len.trans hp.length_eq⟩
theorem WInv.has {now : Int} {R : Nat → List Al} {M : List ME} {L : List Al} (h : WInv now R M L) (n : Int) : (mfind n M).isSome = L.any (isId n) := by
  cases hm : mfind n M with
  | some v =>
    obtain ⟨a, h1, h2, _⟩ := (h.map n v).1 hm
    exact (List.any_eq_true.2 ⟨a, h1, decide_eq_true h2⟩).symm
  | none =>
    refine (List.any_eq_false.2 fun a ha => ?_).symm
    intro hid
    have := (h.map n a.at_).2 ⟨a, ha, of_decide_eq_true hid, rfl⟩
    rw [hm] at this; cases this
theorem WInv.rows_len {now : Int} {R : Nat → List Al} {M : List ME} {L : List Al} (h : WInv now R M L) (k : Nat) : (R k).length ≤ L.length := by
  by_cases hk : k < 48
  · have := (allR_out R hk).length_eq
    rw [List.length_append, h.perm.length_eq] at this
    omega
  · have : R k = [] := List.eq_nil_iff_forall_not_mem.2 fun a ha => hk (okAt_lt (h.row k a ha)).2
    rw [this]; exact Nat.zero_le _

theorem winv_new (now : Int) (h : 0 ≤ now) : WInv now (fun _ => []) [] [] :=
  ⟨h, (fun _ _ h => by cases h), (by unfold allR; decide), .nil, (fun n v => Iff.intro (fun h => by cases h) (fun ⟨_, h, _⟩ => by cases h)), .nil, rfl⟩

theorem WInv.set {now : Int} {R : Nat → List Al} {M : List ME} {L : List Al} (h : WInv now R M L) {a : Al} (c : Nat) (hs : setW now M a = true) :
    WInv now (upd R (plc now a.at_) (R (plc now a.at_) ++ [a])) (M ++ [(a.id, a.at_, c)]) (a :: L) := by
  have hn0 := h.n0
  obtain ⟨h1, h2, h3⟩ : now < a.at_ ∧ a.at_ ≤ now + 4095 ∧ mfind a.id M = none := by
    unfold setW at hs
    split at hs
    · cases hs
    · rename_i g1; have g1 := of_decide_eq_false g1
      split at hs
      · cases hs
      · rename_i g2; have g2 := of_decide_eq_false g2
        split at hs
        · cases hs
        · rename_i g3
          exact ⟨by omega, by omega, by simpa using g3⟩
  have hlt : plc now a.at_ < 48 := plc_lt (by omega)
  have hnew : ∀ x, x ∈ L → a.id ≠ x.id := fun x hx e => by
    have := (h.map a.id x.at_).2 ⟨x, hx, e.symm, rfl⟩
    rw [h3] at this; cases this
  refine ⟨hn0, fun k x hx => ?_, (allR_push R hlt a).trans (h.perm.cons a), List.pairwise_cons.2 ⟨hnew, h.keys⟩, fun n v => ?_, ?_, by simp [h.len]⟩
  · by_cases hk : k = plc now a.at_
    · subst hk
      rw [upd_same] at hx
      rcases List.mem_append.1 hx with hx | hx
      · exact h.row _ x hx
      · obtain rfl : x = a := by simpa using hx
        unfold okAt okX
        rcases plc_eq (now := now) (t := x.at_) (by omega) with ⟨g1, g2⟩ | ⟨g1, g2, g3⟩ | ⟨g1, g2⟩
        · exact .inl ⟨by omega, by omega, by omega, by omega⟩
        · exact .inr (.inl ⟨by omega, by omega, by omega, by omega, by omega⟩)
        · exact .inr (.inr ⟨by omega, by omega, by omega, by omega, by omega⟩)
    · rw [upd_ne _ _ hk] at hx; exact h.row k x hx
  · rw [mfind_push]
    cases hm : mfind n M with
    | some u =>
      simp only [Option.some.injEq]
      constructor
      · rintro rfl
        obtain ⟨x, g1, g2⟩ := (h.map n u).1 hm
        exact ⟨x, .tail _ g1, g2⟩
      · rintro ⟨x, g1, g2, g3⟩
        rcases List.mem_cons.1 g1 with rfl | g1
        · rw [g2, hm] at h3; cases h3
        · have := (h.map n v).2 ⟨x, g1, g2, g3⟩
          rw [hm] at this; injection this
    | none =>
      simp only
      by_cases hn : n = a.id
      · rw [if_pos hn]
        constructor
        · intro hv; injection hv with hv; exact ⟨a, .head _, hn.symm, hv⟩
        · rintro ⟨x, g1, g2, g3⟩
          rcases List.mem_cons.1 g1 with rfl | g1
          · rw [g3]
          · exact absurd (g2.trans hn).symm (hnew x g1)
      · rw [if_neg hn]
        constructor
        · intro hv; cases hv
        · rintro ⟨x, g1, g2, g3⟩
          rcases List.mem_cons.1 g1 with rfl | g1
          · exact absurd g2.symm hn
          · have := (h.map n v).2 ⟨x, g1, g2, g3⟩
            rw [hm] at this; cases this
  · refine List.pairwise_append.2 ⟨h.mkeys, List.pairwise_singleton _ _, fun x hx y hy => ?_⟩
    obtain rfl : y = (a.id, a.at_, c) := by simpa using hy
    intro e
    have hmem : ∀ (M : List ME), x ∈ M → (mfind x.1 M).isSome = true := by
      intro M
      induction M with
      | nil => intro h; cases h
      | cons z r ih =>
        intro hx
        rw [mfind]
        split
        · rfl
        · rename_i hne
          rcases List.mem_cons.1 hx with rfl | hx
          · exact absurd rfl hne
          · exact ih hx
    have := hmem M hx
    rw [show x.1 = a.id from e, h3] at this
    cases this

theorem mdel_mem {k : Int} {x : ME} : ∀ {M : List ME}, x ∈ mdel k M → x ∈ M
  | [], h => h
  | y :: r, h => by
    rw [mdel] at h
    split at h
    · exact .tail _ h
    · rcases List.mem_cons.1 h with rfl | h
      · exact .head _
      · exact .tail _ (mdel_mem h)
theorem mdel_keys {k : Int} : ∀ {M : List ME}, M.Pairwise (fun a b => a.1 ≠ b.1) → (mdel k M).Pairwise fun a b => a.1 ≠ b.1
  | [], h => h
  | y :: r, h => by
    rw [mdel]
    obtain ⟨h1, h2⟩ := List.pairwise_cons.1 h
    split
    · exact h2
    · exact List.pairwise_cons.2 ⟨fun x hx => h1 x (mdel_mem hx), mdel_keys h2⟩
theorem mfind_none {k : Int} : ∀ {M : List ME}, (∀ x, x ∈ M → k ≠ x.1) → mfind k M = none
  | [], _ => rfl
  | y :: r, h => by rw [mfind, if_neg (h y (.head _))]; exact mfind_none fun x hx => h x (.tail _ hx)
theorem mdel_find {k n : Int} : ∀ {M : List ME}, M.Pairwise (fun a b => a.1 ≠ b.1) → mfind n (mdel k M) = if n = k then none else mfind n M
  | [], _ => by rw [mdel, mfind]; split <;> rfl
  | y :: r, h => by
    obtain ⟨h1, h2⟩ := List.pairwise_cons.1 h
    rw [mdel]
    by_cases hy : k = y.1
    · rw [if_pos hy]
      by_cases hn : n = k
      · rw [if_pos hn, hn, hy]; exact mfind_none h1
      · rw [if_neg hn, mfind, if_neg (by rw [← hy]; exact hn)]
    · rw [if_neg hy, mfind, mdel_find h2, mfind]
      by_cases hn : n = y.1
      · rw [if_pos hn, if_neg (by rw [hn]; exact Ne.symm hy), if_pos hn]
      · rw [if_neg hn, if_neg hn]
theorem mdel_len {k : Int} : ∀ {M : List ME}, (mdel k M).length = if (mfind k M).isSome then M.length - 1 else M.length
  | [] => rfl
  | y :: r => by
    rw [mdel, mfind]
    by_cases hy : k = y.1
    · rw [if_pos hy, if_pos hy]; rfl
    · rw [if_neg hy, if_neg hy, List.length_cons, mdel_len, List.length_cons]
      have : (mfind k r).isSome → 0 < r.length := by cases r with
        | nil => intro h; cases h
        | cons _ _ => intro _; simp
      split
      · rename_i hs; have := this hs; omega
      · rfl

theorem filter_flat (p : Al → Bool) (R : Nat → List Al) (ks : List Nat) : (ks.flatMap fun j => (R j).filter p) = (ks.flatMap R).filter p := by
  induction ks with
  | nil => rfl
  | cons k r ih => rw [List.flatMap_cons, List.flatMap_cons, List.filter_append, ih]

def outOf (n : Int) (L : List Al) : List Al := L.filter fun a => !isId n a
theorem outOf_len {n : Int} : ∀ {L : List Al}, L.Pairwise (fun a b => a.id ≠ b.id) → (outOf n L).length = if L.any (isId n) then L.length - 1 else L.length
  | [], _ => rfl
  | a :: r, h => by
    obtain ⟨h1, h2⟩ := List.pairwise_cons.1 h
    have ih := outOf_len (n := n) h2
    unfold outOf at *
    cases ha : isId n a with
    | true =>
      have hid := of_decide_eq_true ha
      have hno : r.any (isId n) = false := List.any_eq_false.2 fun x hx e => h1 x hx (hid.trans (of_decide_eq_true e).symm)
      rw [List.filter_cons_of_neg (by simp [ha]), List.any_cons, ha, Bool.true_or, if_pos rfl, ih, hno]
      simp
    | false =>
      rw [List.filter_cons_of_pos (by simp [ha]), List.any_cons, ha, Bool.false_or, List.length_cons, ih, List.length_cons]
      have : r.any (isId n) = true → 0 < r.length := by cases r with
        | nil => intro h; cases h
        | cons _ _ => intro _; simp
      split
      · rename_i hs; have := this hs; omega
      · rfl

theorem WInv.stop {now : Int} {R : Nat → List Al} {M : List ME} {L : List Al} (h : WInv now R M L) (n : Int) : WInv now (fun j => outOf n (R j)) (mdel n M) (outOf n L) := by
  refine ⟨h.n0, fun k a ha => h.row k a ((List.mem_filter.1 ha).1), ?_, h.keys.sublist List.filter_sublist, fun m v => ?_, mdel_keys h.mkeys, ?_⟩
  · unfold allR outOf
    rw [filter_flat]
    exact h.perm.filter _
  · rw [mdel_find h.mkeys]
    unfold outOf
    by_cases hm : m = n
    · rw [if_pos hm]
      constructor
      · intro e; cases e
      · rintro ⟨a, h1, h2, _⟩
        have := (List.mem_filter.1 h1).2
        simp [isId, h2, hm] at this
    · rw [if_neg hm, h.map m v]
      constructor
      · rintro ⟨a, h1, h2, h3⟩
        exact ⟨a, List.mem_filter.2 ⟨h1, by simp [isId, h2, hm]⟩, h2, h3⟩
      · rintro ⟨a, h1, h2, h3⟩
        exact ⟨a, (List.mem_filter.1 h1).1, h2, h3⟩
  · rw [mdel_len, outOf_len h.keys, h.has n, h.len]
end Go.Proofs.YtcbpdjikdohegaaGreat.V
namespace Go.Proofs.YtcbpdjikdohegaaGreat.V
open Go.RowKit

def laidR (now : Int) (R : Nat → List Al) (a : Al) : Nat → List Al := upd R (plc now a.at_) (R (plc now a.at_) ++ [a])
def pourR (now : Int) (k : Nat) (R : Nat → List Al) : Nat → List Al := (R k).foldl (laidR now) (upd R k [])
def k2 (t : Int) : Nat := (32 + t / 256 % 16).toNat
def k1 (t : Int) : Nat := (16 + t / 16 % 16).toNat
def k0 (t : Int) : Nat := (t % 16).toNat
def pour2 (t : Int) (R : Nat → List Al) : Nat → List Al := match decide (t % 256 = 0) with
  | true => pourR t (k2 t) R
  | false => R
def pour1 (t : Int) (R : Nat → List Al) : Nat → List Al := match decide (t % 16 = 0) with
  | true => pourR t (k1 t) R
  | false => R
def readyR (t : Int) (R : Nat → List Al) : Nat → List Al := pour1 t (pour2 t R)
def mdels (D : List Al) (M : List ME) : List ME := D.foldl (fun M a => mdel a.id M) M
def outs (D : List Al) (L : List Al) : List Al := D.foldl (fun L a => outOf a.id L) L

theorem fold_lay {now lo0 lo1 hi1 lo2 hi2 : Int} : ∀ (l : List Al) (R : Nat → List Al), (∀ a, a ∈ l → 0 ≤ a.at_ ∧ okX now lo0 lo1 hi1 lo2 hi2 (plc now a.at_) a) → (∀ k a, a ∈ R k → okX now lo0 lo1 hi1 lo2 hi2 k a) →
    (∀ k a, a ∈ (l.foldl (laidR now) R) k → okX now lo0 lo1 hi1 lo2 hi2 k a) ∧ (allR (l.foldl (laidR now) R)).Perm (l ++ allR R)
  | [], R, _, h => ⟨h, .refl _⟩
  | x :: l, R, hl, h => by
    obtain ⟨h0, hx⟩ := hl x (.head _)
    have hlt : plc now x.at_ < 48 := plc_lt h0
    have ih := fold_lay l (laidR now R x) (fun a ha => hl a (.tail _ ha)) (fun k a ha => by
      unfold laidR at ha
      by_cases hk : k = plc now x.at_
      · subst hk
        rw [upd_same] at ha
        rcases List.mem_append.1 ha with ha | ha
        · exact h _ a ha
        · obtain rfl : a = x := by simpa using ha
          exact hx
      · rw [upd_ne _ _ hk] at ha; exact h k a ha)
    refine ⟨ih.1, ih.2.trans ?_⟩
    refine ((allR_push R hlt x).append_left l).trans ?_
    exact List.perm_middle
theorem allR_cut (R : Nat → List Al) {k : Nat} (hk : k < 48) : (R k ++ allR (upd R k [])).Perm (allR R) := (allR_out R hk).symm

theorem WInv.mid {now : Int} {R : Nat → List Al} {M : List ME} {L : List Al} (h : WInv now R M L) :
    (∀ k a, a ∈ pour2 (now + 1) R k → okX (now + 1) (now + 1) (now / 16 + 1) (now / 16 + 16) ((now + 1) / 256 + 1) ((now + 1) / 256 + 16) k a) ∧ (allR (pour2 (now + 1) R)).Perm L := by
  have hn0 := h.n0
  have hA : ∀ k a, a ∈ R k → okX (now + 1) (now + 1) (now / 16 + 1) (now / 16 + 16) (now / 256 + 1) (now / 256 + 16) k a := fun k a ha => by
    have := h.row k a ha
    unfold okAt okX at this
    unfold okX
    rcases this with ⟨q1, q2, q3, q4⟩ | ⟨q1, q2, q3, q4, q5⟩ | ⟨q1, q2, q3, q4, q5⟩
    · exact .inl ⟨q1, q2, by omega, q4⟩
    · exact .inr (.inl ⟨q1, q2, q3, q4, q5⟩)
    · exact .inr (.inr ⟨q1, q2, q3, q4, q5⟩)
  have hpos : ∀ k a, a ∈ R k → 0 ≤ a.at_ := fun k a ha => by have := (okAt_lt (h.row k a ha)).1; omega
  unfold pour2
  cases ht : decide ((now + 1) % 256 = 0) with
  | false =>
    have ht := of_decide_eq_false ht
    have e : (now + 1) / 256 = now / 256 := by omega
    rw [e]
    exact ⟨hA, h.perm⟩
  | true =>
    have ht := of_decide_eq_true ht
    have hk : k2 (now + 1) < 48 := by unfold k2; omega
    have hkk : ((k2 (now + 1) : Nat) : Int) = 32 + (now + 1) / 256 % 16 := by unfold k2; omega
    have hf := fold_lay (now := now + 1) (lo0 := now + 1) (lo1 := now / 16 + 1) (hi1 := now / 16 + 16) (lo2 := (now + 1) / 256 + 1) (hi2 := (now + 1) / 256 + 16) (R (k2 (now + 1))) (upd R (k2 (now + 1)) [])
    refine (fun g => ⟨g.1, g.2.trans ((allR_cut R hk).trans h.perm)⟩) (hf (fun a ha => ?_) (fun k a ha => ?_))
    · have h0 := hpos _ a ha
      refine ⟨h0, ?_⟩
      have := hA _ a ha
      unfold okX at this
      have hat : a.at_ / 256 = (now + 1) / 256 := by
        rcases this with ⟨q1, _⟩ | ⟨q1, q2, _⟩ | ⟨q1, q2, q3, q4, q5⟩
        · omega
        · omega
        · omega
      unfold okX
      rcases plc_eq (now := now + 1) h0 with ⟨q1, q2⟩ | ⟨q1, q2, q3⟩ | ⟨q1, q2⟩
      · exact .inl ⟨by omega, by omega, by omega, by omega⟩
      · exact .inr (.inl ⟨by omega, by omega, by omega, by omega, by omega⟩)
      · exact absurd q1 (by omega)
    · by_cases hkk2 : k = k2 (now + 1)
      · subst hkk2; rw [upd_same] at ha; cases ha
      · rw [upd_ne _ _ hkk2] at ha
        have := hA k a ha
        unfold okX at this ⊢
        rcases this with q | q | ⟨q1, q2, q3, q4, q5⟩
        · exact .inl q
        · exact .inr (.inl q)
        · refine .inr (.inr ⟨q1, q2, ?_, by omega, q5⟩)
          have : (k : Int) ≠ 32 + (now + 1) / 256 % 16 := by omega
          omega

theorem WInv.ready {now : Int} {R : Nat → List Al} {M : List ME} {L : List Al} (h : WInv now R M L) :
    (∀ k a, a ∈ readyR (now + 1) R k → okX (now + 1) (now + 1) ((now + 1) / 16 + 1) ((now + 1) / 16 + 16) ((now + 1) / 256 + 1) ((now + 1) / 256 + 16) k a) ∧ (allR (readyR (now + 1) R)).Perm L := by
  have hn0 := h.n0
  have hB := h.mid
  have hpos2 : ∀ k a, a ∈ pour2 (now + 1) R k → 0 ≤ a.at_ := fun k a ha => by
    have := hB.1 k a ha
    have hk : k < 48 := by unfold okX at this; omega
    have hm : a ∈ L := hB.2.mem_iff.1 (mem_allR.2 ⟨k, hk, ha⟩)
    have := h.due hm; omega
  unfold readyR pour1
  cases ht : decide ((now + 1) % 16 = 0) with
  | false =>
    have ht := of_decide_eq_false ht
    have e : (now + 1) / 16 = now / 16 := by omega
    rw [e]
    exact hB
  | true =>
    have ht := of_decide_eq_true ht
    have hk : k1 (now + 1) < 48 := by unfold k1; omega
    have hkk : ((k1 (now + 1) : Nat) : Int) = 16 + (now + 1) / 16 % 16 := by unfold k1; omega
    have hf := fold_lay (now := now + 1) (lo0 := now + 1) (lo1 := (now + 1) / 16 + 1) (hi1 := (now + 1) / 16 + 16) (lo2 := (now + 1) / 256 + 1) (hi2 := (now + 1) / 256 + 16) (pour2 (now + 1) R (k1 (now + 1))) (upd (pour2 (now + 1) R) (k1 (now + 1)) [])
    refine (fun g => ⟨g.1, g.2.trans ((allR_cut _ hk).trans hB.2)⟩) (hf (fun a ha => ?_) (fun k a ha => ?_))
    · have h0 := hpos2 _ a ha
      refine ⟨h0, ?_⟩
      have := hB.1 _ a ha
      unfold okX at this
      have hat : a.at_ / 16 = (now + 1) / 16 := by
        rcases this with ⟨q1, _⟩ | ⟨q1, q2, q3, q4, q5⟩ | ⟨q1, _⟩
        · omega
        · omega
        · omega
      unfold okX
      rcases plc_eq (now := now + 1) h0 with ⟨q1, q2⟩ | ⟨q1, q2, q3⟩ | ⟨q1, q2⟩
      · exact .inl ⟨by omega, by omega, by omega, by omega⟩
      · exact absurd q1 (by omega)
      · exact absurd q1 (by omega)
    · by_cases hkk2 : k = k1 (now + 1)
      · subst hkk2; rw [upd_same] at ha; cases ha
      · rw [upd_ne _ _ hkk2] at ha
        have := hB.1 k a ha
        unfold okX at this ⊢
        rcases this with q | ⟨q1, q2, q3, q4, q5⟩ | q
        · exact .inl q
        · refine .inr (.inl ⟨q1, q2, ?_, by omega, q5⟩)
          have : (k : Int) ≠ 16 + (now + 1) / 16 % 16 := by omega
          omega
        · exact .inr (.inr q)

theorem outs_filter : ∀ (D L : List Al), outs D L = L.filter fun x => !D.any fun a => isId a.id x
  | [], L => by
    have : (fun x : Al => !([] : List Al).any fun a => isId a.id x) = fun _ => true := rfl
    rw [this, List.filter_eq_self.2 fun _ _ => rfl]; rfl
  | a :: D, L => by
    have : outs (a :: D) L = outs D (outOf a.id L) := rfl
    rw [this, outs_filter D]
    unfold outOf
    rw [List.filter_filter]
    congr 1
    funext x
    simp only [List.any_cons, Bool.not_or]
    rw [Bool.and_comm]
theorem winv_outs {now : Int} : ∀ (D : List Al) {R : Nat → List Al} {M : List ME} {L : List Al}, WInv now R M L → ∃ R', WInv now R' (mdels D M) (outs D L)
  | [], R, _, _, h => ⟨R, h⟩
  | a :: D, _, _, _, h => winv_outs D (h.stop a.id)
theorem keys_one {L : List Al} (h : L.Pairwise fun a b => a.id ≠ b.id) {a b : Al} (ha : a ∈ L) (hb : b ∈ L) (he : a.id = b.id) : a = b := by
  obtain ⟨i, hi, rfl⟩ := List.mem_iff_getElem.1 ha
  obtain ⟨j, hj, rfl⟩ := List.mem_iff_getElem.1 hb
  rcases Nat.lt_trichotomy i j with h1 | h1 | h1
  · exact absurd he (List.pairwise_iff_getElem.1 h i j hi hj h1)
  · subst h1; rfl
  · exact absurd he.symm (List.pairwise_iff_getElem.1 h j i hj hi h1)

def isAt (t : Int) (a : Al) : Bool := decide (a.at_ = t)

theorem WInv.tick {now : Int} {R : Nat → List Al} {M : List ME} {L : List Al} (h : WInv now R M L) {D : List Al} (hD : D.Perm (readyR (now + 1) R (k0 (now + 1)))) :
    (∀ a, a ∈ D → a.at_ = now + 1) ∧ (L.filter (isAt (now + 1))).Perm D ∧ WInv (now + 1) (upd (readyR (now + 1) R) (k0 (now + 1)) []) (mdels D M) (L.filter fun a => !isAt (now + 1) a) := by
  have hn0 := h.n0
  obtain ⟨hr, hp⟩ := h.ready
  have hk : k0 (now + 1) < 16 := by unfold k0; omega
  have hkk : ((k0 (now + 1) : Nat) : Int) = (now + 1) % 16 := by unfold k0; omega
  have hdat : ∀ a, a ∈ readyR (now + 1) R (k0 (now + 1)) → a.at_ = now + 1 := fun a ha => by
    have := hr _ a ha
    unfold okX at this
    omega
  have hrest : ∀ k a, a ∈ upd (readyR (now + 1) R) (k0 (now + 1)) [] k → a.at_ ≠ now + 1 ∧ okAt (now + 1) k a := fun k a ha => by
    by_cases hkk2 : k = k0 (now + 1)
    · subst hkk2; rw [upd_same] at ha; cases ha
    · rw [upd_ne _ _ hkk2] at ha
      have := hr k a ha
      unfold okX at this
      unfold okAt okX
      rcases this with ⟨q1, q2, q3, q4⟩ | ⟨q1, q2, q3, q4, q5⟩ | ⟨q1, q2, q3, q4, q5⟩
      · have : (k : Int) ≠ (now + 1) % 16 := by omega
        exact ⟨by omega, .inl ⟨q1, by omega, by omega, q4⟩⟩
      · exact ⟨by omega, .inr (.inl ⟨q1, q2, by omega, q4, q5⟩)⟩
      · exact ⟨by omega, .inr (.inr ⟨q1, q2, by omega, q4, q5⟩)⟩
  have hout := allR_out (readyR (now + 1) R) (show k0 (now + 1) < 48 by omega)
  have hyes : (readyR (now + 1) R (k0 (now + 1))).filter (isAt (now + 1)) = readyR (now + 1) R (k0 (now + 1)) := List.filter_eq_self.2 fun a ha => decide_eq_true (hdat a ha)
  have hno : (allR (upd (readyR (now + 1) R) (k0 (now + 1)) [])).filter (isAt (now + 1)) = [] := List.filter_eq_nil_iff.2 fun a ha => by
    obtain ⟨k, _, hk⟩ := mem_allR.1 ha
    simpa [isAt] using (hrest k a hk).1
  have hyes' : (readyR (now + 1) R (k0 (now + 1))).filter (fun a => !isAt (now + 1) a) = [] := List.filter_eq_nil_iff.2 fun a ha => by
    simpa [isAt] using hdat a ha
  have hno' : (allR (upd (readyR (now + 1) R) (k0 (now + 1)) [])).filter (fun a => !isAt (now + 1) a) = allR (upd (readyR (now + 1) R) (k0 (now + 1)) []) := List.filter_eq_self.2 fun a ha => by
    obtain ⟨k, _, hk⟩ := mem_allR.1 ha
    simpa [isAt] using (hrest k a hk).1
  have hdue : (L.filter (isAt (now + 1))).Perm D := by
    have := (hp.symm.trans hout).filter (isAt (now + 1))
    rw [List.filter_append, hyes, hno, List.append_nil] at this
    exact this.trans hD.symm
  have hleft : (allR (upd (readyR (now + 1) R) (k0 (now + 1)) [])).Perm (L.filter fun a => !isAt (now + 1) a) := by
    have := (hp.symm.trans hout).filter (fun a => !isAt (now + 1) a)
    rw [List.filter_append, hyes', hno', List.nil_append] at this
    exact this.symm
  have hDat : ∀ a, a ∈ D → a.at_ = now + 1 := fun a ha => hdat a (hD.mem_iff.1 ha)
  obtain ⟨R', hM⟩ := winv_outs D h
  have hof : outs D L = L.filter fun a => !isAt (now + 1) a := by
    rw [outs_filter]
    apply List.filter_congr
    intro x hx
    congr 1
    unfold isAt
    by_cases hxt : x.at_ = now + 1
    · rw [decide_eq_true hxt]
      exact List.any_eq_true.2 ⟨x, hdue.mem_iff.1 (List.mem_filter.2 ⟨hx, decide_eq_true hxt⟩), decide_eq_true rfl⟩
    · rw [decide_eq_false hxt]
      refine List.any_eq_false.2 fun a ha hid => ?_
      have hal := (List.mem_filter.1 (hdue.mem_iff.2 ha)).1
      have := keys_one h.keys hx hal (of_decide_eq_true hid)
      rw [this] at hxt
      exact hxt (hDat a ha)
  rw [hof] at hM
  exact ⟨hDat, hdue, ⟨by omega, fun k a ha => (hrest k a ha).2, hleft, hM.keys, hM.map, hM.mkeys, hM.len⟩⟩

/-! ### A row in order -/
def Sorted (L : List Al) : Prop := L.Pairwise fun a b => aheadA a b = true
theorem ahead_iff {a b : Al} : aheadA a b = true ↔ a.at_ < b.at_ ∨ (a.at_ = b.at_ ∧ a.id < b.id) := by
  unfold aheadA
  cases h1 : decide (a.at_ < b.at_) with
  | true => exact ⟨fun _ => .inl (of_decide_eq_true h1), fun _ => rfl⟩
  | false =>
    have h1 := of_decide_eq_false h1
    cases h2 : decide (a.at_ = b.at_) with
    | true =>
      have h2 := of_decide_eq_true h2
      simp only [decide_eq_true_eq]
      exact ⟨fun h => .inr ⟨h2, h⟩, fun h => h.elim (fun h => absurd h h1) (·.2)⟩
    | false =>
      have h2 := of_decide_eq_false h2
      simp only [Bool.false_eq_true, false_iff]
      rintro (h | ⟨h, _⟩)
      · exact h1 h
      · exact h2 h
def upTo (t : Int) (a : Al) : Bool := decide (a.at_ ≤ t)
theorem take_filter {t : Int} : ∀ {L : List Al}, Sorted L → L.filter (upTo t) = L.takeWhile (upTo t) ∧ (L.filter fun a => !upTo t a) = L.dropWhile (upTo t)
  | [], _ => ⟨rfl, rfl⟩
  | a :: r, h => by
    obtain ⟨h1, h2⟩ := List.pairwise_cons.1 h
    obtain ⟨ih1, ih2⟩ := take_filter (t := t) h2
    cases ha : upTo t a with
    | true =>
      rw [List.filter_cons_of_pos ha, List.takeWhile_cons_of_pos ha, List.dropWhile_cons_of_pos ha, ih1, List.filter_cons_of_neg (by simp [ha]), ih2]
      exact ⟨rfl, rfl⟩
    | false =>
      have hall : ∀ x, x ∈ r → upTo t x = false := fun x hx => by
        have hax := ahead_iff.1 (h1 x hx)
        have ha := of_decide_eq_false ha
        exact decide_eq_false (by omega)
      rw [List.filter_cons_of_neg (by simp [ha]), List.takeWhile_cons_of_neg (by simp [ha]), List.dropWhile_cons_of_neg (by simp [ha]), List.filter_cons_of_pos (by simp [ha])]
      refine ⟨List.filter_eq_nil_iff.2 fun x hx => by simp [hall x hx], ?_⟩
      rw [List.filter_eq_self.2 fun x hx => by simp [hall x hx]]
theorem WInv.tick_sorted {now : Int} {R : Nat → List Al} {M : List ME} {L : List Al} (h : WInv now R M L) (hs : Sorted L) {D : List Al} (hD : D.Perm (readyR (now + 1) R (k0 (now + 1)))) (hid : D.Pairwise fun a b => a.id < b.id) :
    D = L.takeWhile (upTo (now + 1)) ∧ WInv (now + 1) (upd (readyR (now + 1) R) (k0 (now + 1)) []) (mdels D M) (L.dropWhile (upTo (now + 1))) := by
  obtain ⟨h1, h2, h3⟩ := h.tick hD
  obtain ⟨h4, h5⟩ := take_filter (t := now + 1) hs
  have e1 : ∀ x, x ∈ L → upTo (now + 1) x = isAt (now + 1) x := fun x hx => by
    have := h.due hx
    exact decide_eq_decide.2 (by omega)
  rw [List.filter_congr e1] at h4
  rw [List.filter_congr fun x hx => by rw [e1 x hx]] at h5
  rw [h5] at h3
  refine ⟨?_, h3⟩
  rw [← h4]
  refine sorted_unique h2.symm hid ?_
  refine List.Pairwise.imp_of_mem (fun {a b} ha hb hab => ?_) (List.Pairwise.sublist List.filter_sublist hs)
  have g1 : a.at_ = now + 1 := of_decide_eq_true (List.mem_filter.1 ha).2
  have g2 : b.at_ = now + 1 := of_decide_eq_true (List.mem_filter.1 hb).2
  have := ahead_iff.1 hab
  omega
theorem take_more {t u : Int} (h : t ≤ u) (L : List Al) : L.takeWhile (upTo u) = L.takeWhile (upTo t) ++ (L.dropWhile (upTo t)).takeWhile (upTo u) ∧ L.dropWhile (upTo u) = (L.dropWhile (upTo t)).dropWhile (upTo u) := by
  induction L with
  | nil => exact ⟨rfl, rfl⟩
  | cons a r ih =>
    cases ha : upTo t a with
    | true =>
      have hau : upTo u a = true := decide_eq_true (by have := of_decide_eq_true ha; omega)
      rw [List.takeWhile_cons_of_pos hau, List.takeWhile_cons_of_pos ha, List.dropWhile_cons_of_pos ha, List.dropWhile_cons_of_pos hau, List.cons_append, ← ih.1]
      exact ⟨rfl, ih.2⟩
    | false =>
      rw [List.takeWhile_cons_of_neg (p := upTo t) (by simp [ha]), List.dropWhile_cons_of_neg (p := upTo t) (by simp [ha])]
      exact ⟨rfl, rfl⟩
theorem Sorted.drop {L : List Al} (h : Sorted L) (p : Al → Bool) : Sorted (L.dropWhile p) := List.Pairwise.sublist (List.dropWhile_sublist p) h
end Go.Proofs.YtcbpdjikdohegaaGreat.V
namespace Go.Proofs.YtcbpdjikdohegaaGreat.V
open Go.RowKit
attribute [local irreducible] Fn FnN OpVC Ob RowFn

theorem rowOf {f : FuncId} {fn : Func} {c : Code} {α : Type} {el e : Nat} {enc : α → List D} {L : List α} {rest : List D} {Q : List α → Prop} (pl : Plans) (hfn : Tryz.prog.funcs[f]? = some fn) (hc : fn.body = some c) (hok : codeOk pl fn.ntmps c = true) (hn : rest.length + 1 ≤ fn.ntmps)
    (h : wpc Tryz.prog tt pl c ⟨enumD (.grow 0 :: rest) 0, [(0, .grow α el e enc L)], 1, ([], 0)⟩ fun e1 s' => endK e1 (resK tt s' fn.results.toList fun l => seeD (oneD l) fun d => rowEnd el e enc s' d Q)) : RowFn Tryz.prog f el e enc L rest Q :=
  row_of_wpc ttH ebH mxH hfn hc hok hn h

theorem take_snoc {α : Type} {L : List α} {k : Nat} {x : α} (h : L[k]? = some x) : L.take (k + 1) = L.take k ++ [x] := by
  rw [List.take_add_one, h]; rfl
theorem findI_cases {α : Type} (p : α → Bool) (L : List α) : (findI p L = -1 ∧ ∀ x, x ∈ L → p x = false) ∨ ∃ (k : Nat) (x : α), findI p L = k ∧ L[k]? = some x ∧ p x = true ∧ ∀ (j : Nat) u, j < k → L[j]? = some u → p u = false := by
  unfold findI
  cases h : L.findIdx? p with
  | none => exact .inl ⟨rfl, fun x hx => by have := List.findIdx?_eq_none_iff.1 h x hx; simpa using this⟩
  | some k =>
    obtain ⟨h1, h2, h3⟩ := List.findIdx?_eq_some_iff_getElem.1 h
    refine .inr ⟨k, _, rfl, List.getElem?_eq_getElem h1, h2, fun j u hj hu => ?_⟩
    have := h3 j hj
    rw [List.getElem?_eq_getElem (by omega)] at hu
    injection hu with hu
    subst hu
    simpa using this

theorem stop1_fn (x : Al) {n : Int} : Fn Tryz.prog 51 [.agg (alD x), .fp [.v (.int .i64 n)]] fun d => d = boolD (isId n x) := by
  refine fnOf [] Tryz.func51 rfl (by kernel_rfl) (Nat.le_of_ble_eq_true rfl) ?_
  conv => whnf
  rfl

theorem indexFuncA_fn (V : List Al) {f : FuncId} {c : Value} {p : Al → Bool} (hf : ∀ x, x ∈ V → Fn Tryz.prog f [.agg (alD x), .fp [.v c]] fun d => d = boolD (p x)) (hV : V.length ≤ 1000000) :
    Fn Tryz.prog 63 [rowsA V, .fn f [] [.fp [.v c]]] fun d => d = intD (findI p V) := by
  refine fnOf [] Tryz.func63 rfl (by kernel_rfl) (Nat.le_of_ble_eq_true rfl) ?_
  conv => whnf
  refine ⟨Nat, fun k => ⟨[(8, intD k), (7, intD V.length), (0, rowsA V), (1, .fn f [] [.fp [.v c]])], [], 0, ([], 0)⟩,
    fun k => k ≤ V.length ∧ ∀ (j : Nat) u, j < k → V[j]? = some u → p u = false, fun k => V.length - k, ⟨0, [], [], ?_, Nat.zero_le _, fun j u h => by omega⟩, ?_⟩
  · repeat' (first | exact trivial | exact .inl (DLe.refl _) | exact .inl (DLe.nil _ _) | (refine .inr ⟨rfl, _, ?_, rfl⟩; rfl) | exact rfl | exact Nat.zero_le _ | constructor)
  · rintro k ⟨hk, hno⟩
    conv => whnf
    refine Fork.intro (fun h1 => ?_) (fun h1 => ?_)
    · have hlt : (k : Int) < V.length := of_decide_eq_true h1
      conv => whnf
      refine ⟨rfl, ⟨by omega, hlt⟩, fun x hx => ?_⟩
      have hxk : V[k]? = some x := by simpa using hx
      conv => whnf
      refine CallVC.pure (hf x (List.mem_of_getElem? hxk)) rfl ?_
      rintro _ rfl
      conv => whnf
      refine Fork.intro (fun h2 => ?_) (fun h2 => ?_)
      · conv => whnf
        rw [findI_at hxk h2 hno]
      · conv => whnf
        rw [wrap_next (show k < V.length by omega) hV]
        refine ⟨k + 1, [], [], ?_, ⟨by omega, no_next hxk h2 hno⟩, by show V.length - (k + 1) < V.length - k; omega⟩
        repeat' (first | exact trivial | exact .inl (DLe.refl _) | exact .inl (DLe.nil _ _) | (refine .inr ⟨rfl, _, ?_, rfl⟩; rfl) | exact rfl | exact Nat.zero_le _ | constructor)
    · have hge : ¬ (k : Int) < V.length := of_decide_eq_false h1
      conv => whnf
      rw [findI_none (fun j u hj => hno j u (by omega))]

theorem delA_row (B : List Al) (n : Int) (hB : B.length ≤ 1000) : RowFn Tryz.prog 50 73 2 alD B [.fn 51 [] [.fp [intD n]]] fun L' => L' = outOf n B := by
  refine rowOf [] Tryz.func50 rfl (by kernel_rfl) (Nat.le_of_ble_eq_true rfl) ?_
  unfold outOf
  conv => whnf
  refine CallVC.snap (indexFuncA_fn B (c := .int .i64 n) (fun x _ => stop1_fn x) (by omega)) ?_
  rintro _ rfl
  refine ⟨rfl, ?_⟩
  rcases findI_cases (isId n) B with ⟨h2, h3⟩ | ⟨k, x0, h2, h3, h4, h5⟩
  · rw [h2]
    conv => whnf
    refine ⟨rfl, rfl, B, rfl, ?_⟩
    exact (List.filter_eq_self.2 fun x hx => by simp [h3 x hx]).symm
  · rw [h2]
    have hk : k < B.length := (List.getElem?_eq_some_iff.1 h3).1
    have hpre : (B.take k).filter (fun a => !isId n a) = B.take k := List.filter_eq_self.2 fun x hx => by
      obtain ⟨j, hj, rfl⟩ := List.mem_iff_getElem.1 hx
      rw [List.length_take] at hj
      have := h5 j (B.take k)[j] (by omega) (by rw [List.getElem_take]; exact List.getElem?_eq_getElem (by omega))
      rw [this]; rfl
    have hpre1 : (B.take (k + 1)).filter (fun a => !isId n a) = B.take k := by
      rw [take_snoc h3, List.filter_append, hpre]
      simp [h4]
    clear h2 h4 h5 hpre
    conv => whnf
    rw [wrap_next hk (by omega)]
    refine ⟨Nat × Nat × List Al, fun p => ⟨[(6, intD p.2.1), (5, intD p.1), (0, .grow 0), (1, .fn 51 [] [.fp [intD n]])], [(0, .grow Al 73 2 alD p.2.2)], 1, ([], 0)⟩,
      fun p => p.1 < p.2.1 ∧ p.2.1 ≤ B.length ∧ p.2.2.length = B.length ∧ p.2.2.take p.1 = (B.take p.2.1).filter (fun a => !isId n a) ∧ ∀ m, p.2.1 ≤ m → p.2.2[m]? = B[m]?, fun p => B.length - p.2.1,
      ⟨(k, k + 1, B), [], [], ?_, Nat.lt_succ_self _, hk, rfl, hpre1.symm, fun _ _ => rfl⟩, ?_⟩
    · repeat' (first | exact trivial | exact .inl (DLe.refl _) | exact .inl (DLe.nil _ _) | (refine .inr ⟨rfl, _, ?_, rfl⟩; rfl) | exact rfl | exact Nat.zero_le _ | constructor)
    · rintro ⟨i, j, L⟩ ⟨hij, hj, hL, hf, hr⟩
      dsimp only at hij hj hL hf hr
      conv => whnf
      rw [hL]
      refine Fork.intro (fun h1 => ?_) (fun h1 => ?_)
      · have hlt : (j : Int) < B.length := of_decide_eq_true h1
        conv => whnf
        refine ⟨rfl, ⟨by show (0 : Int) ≤ j; omega, by show (j : Int) < L.length; omega⟩, ?_⟩
        conv => whnf
        refine ⟨rfl, by show (j : Int).toNat < L.length; omega, fun x hx => ?_⟩
        have hxj : B[j]? = some x := by
          rw [← hr j (Nat.le_refl _)]; simpa using hx
        conv => whnf
        refine CallVC.snap (stop1_fn x) ?_
        rintro _ rfl
        refine ⟨rfl, ?_⟩
        conv => whnf
        have hn : ∀ b : Bool, (!isId n x) = b → (B.take (j + 1)).filter (fun a => !isId n a) = L.take i ++ (match b with
            | true => [x]
            | false => []) := fun b hb => by
          rw [take_snoc hxj, List.filter_append, ← hf]
          cases b <;> simp [hb]
        refine Fork.intro (fun h2 => ?_) (fun h2 => ?_)
        · replace h2 : (!isId n x) = true := h2
          conv => whnf
          refine ⟨rfl, ⟨by show (0 : Int) ≤ i; omega, by show (i : Int) < L.length; omega⟩, ?_⟩
          conv => whnf
          refine ⟨rfl, by show (i : Int).toNat < L.length; omega, fun x' hx' => ?_⟩
          conv => whnf
          refine ⟨rfl, x, rfl, ?_⟩
          conv => whnf
          rw [wrap_next (show i < B.length by omega) (by omega), wrap_next (show j < B.length by omega) (by omega)]
          refine ⟨(i + 1, j + 1, L.set i x), [], [], ?_, ⟨Nat.succ_lt_succ hij, by show j + 1 ≤ _; omega, by show (L.set i x).length = _; rw [List.length_set]; exact hL, ?_, fun m hm => ?_⟩, by show B.length - (j + 1) < B.length - j; omega⟩
          · repeat' (first | exact trivial | exact .inl (DLe.refl _) | exact .inl (DLe.nil _ _) | (refine .inr ⟨rfl, _, ?_, rfl⟩; rfl) | exact rfl | exact Nat.zero_le _ | constructor)
          · show (L.set i x).take (i + 1) = _
            rw [hn true h2, take_snoc (x := x) (by rw [List.getElem?_set, if_pos rfl, if_pos (by omega)]), List.take_set, List.set_eq_of_length_le (by rw [List.length_take]; omega)]
          · show (L.set i x)[m]? = _
            have hm : j + 1 ≤ m := hm
            rw [List.getElem?_set, if_neg (by omega)]
            exact hr m (by omega)
        · replace h2 : (!isId n x) = false := h2
          conv => whnf
          rw [wrap_next (show j < B.length by omega) (by omega)]
          refine ⟨(i, j + 1, L), [], [], ?_, ⟨by show i < j + 1; omega, by show j + 1 ≤ _; omega, hL, ?_, fun m hm => hr m (by have hm : j + 1 ≤ m := hm; omega)⟩, by show B.length - (j + 1) < B.length - j; omega⟩
          · repeat' (first | exact trivial | exact .inl (DLe.refl _) | exact .inl (DLe.nil _ _) | (refine .inr ⟨rfl, _, ?_, rfl⟩; rfl) | exact rfl | exact Nat.zero_le _ | constructor)
          · show L.take i = _
            rw [hn false h2, List.append_nil]
      · have hge : ¬ (j : Int) < B.length := of_decide_eq_false h1
        have hjB : B.take j = B := List.take_of_length_le (by omega)
        rw [hjB] at hf
        conv => whnf
        refine ⟨rfl, ⟨by show (0 : Int) ≤ i; omega, by show (i : Int) ≤ L.length; omega, Int.le_refl _⟩, ?_⟩
        conv => whnf
        refine ⟨rfl, rfl, rfl, by decide, by show 0 < ((L.length : Int) - i).toNat; omega, by show (i : Int).toNat + ((L.length : Int) - i).toNat ≤ L.length; omega, ⟨0, 0⟩, rfl, rfl, ?_⟩
        have hMl : (List.take (i : Int).toNat L ++ List.replicate ((L.length : Int) - i).toNat (⟨0, 0⟩ : Al) ++ List.drop ((i : Int).toNat + ((L.length : Int) - i).toNat) L).length = L.length := by
          simp; omega
        have hMt : (List.take (i : Int).toNat L ++ List.replicate ((L.length : Int) - i).toNat (⟨0, 0⟩ : Al) ++ List.drop ((i : Int).toNat + ((L.length : Int) - i).toNat) L).take i = L.take i := by
          rw [List.append_assoc, List.take_append_of_le_length (by simp; omega), nat_toNat, List.take_take, Nat.min_self]
        generalize hM : (List.take (i : Int).toNat L ++ List.replicate ((L.length : Int) - i).toNat (⟨0, 0⟩ : Al) ++ List.drop ((i : Int).toNat + ((L.length : Int) - i).toNat) L) = M at *
        conv => whnf
        refine ⟨rfl, ⟨by omega, by show (i : Int) ≤ M.length; omega⟩, ?_⟩
        conv => whnf
        refine ⟨rfl, rfl, by show i ≤ M.length; omega, L.take i, ?_, hf⟩
        show (M.take i).map alD = _
        rw [hMt]
end Go.Proofs.YtcbpdjikdohegaaGreat.V
namespace Go.Proofs.YtcbpdjikdohegaaGreat.V
open Go.RowKit
theorem fold_len (now : Int) : ∀ (l : List Al) (R : Nat → List Al) (j : Nat), ((l.foldl (laidR now) R) j).length ≤ (R j).length + l.length
  | [], R, j => Nat.le_refl _
  | x :: l, R, j => by
    have ih := fold_len now l (laidR now R x) j
    have : ((laidR now R x) j).length ≤ (R j).length + 1 := by
      unfold laidR
      by_cases h : j = plc now x.at_
      · subst h; rw [upd_same, List.length_append]; exact Nat.le_refl _
      · rw [upd_ne _ _ h]; omega
    rw [List.foldl_cons, List.length_cons]
    omega
theorem upd_nil_len {R : Nat → List Al} {n k : Nat} (h : ∀ j, (R j).length ≤ n) (j : Nat) : (upd R k [] j).length ≤ n := by
  by_cases hj : j = k
  · subst hj; rw [upd_same]; exact Nat.zero_le _
  · rw [upd_ne _ _ hj]; exact h j
end Go.Proofs.YtcbpdjikdohegaaGreat.V
