/-
  The plain law of the wheel: it goes on by one tick. No condition.
-/
import Derived.Test.YtcbpdjikdohegaaWpK
namespace Go.Proofs.Ytcbpdjikdohegaa.V
open Go.RowKit

def laidR (now : Int) (R : Nat → List Al) (a : Al) : Nat → List Al := upd R (plc now a.at_) (R (plc now a.at_) ++ [a])
def pourR (now : Int) (k : Nat) (R : Nat → List Al) : Nat → List Al := (R k).foldl (laidR now) (upd R k [])
def k2 (t : Int) : Nat := (32 + t / 256 % 16).toNat
def k1 (t : Int) : Nat := (16 + t / 16 % 16).toNat
def k0 (t : Int) : Nat := (t % 16).toNat
def pour2 (t : Int) (R : Nat → List Al) : Nat → List Al := match decide (t % 256 = 0) with
  | true => pourR t (k2 t) R
  | false => R
def pour1 (t : Int) (R : Nat → List Al) : Nat → List Al := match decide (t % 16 = 0) with
  | true => pourR t (k1 t) R
  | false => R
/-- The rows, ahead of what is due being told. -/
def readyR (t : Int) (R : Nat → List Al) : Nat → List Al := pour1 t (pour2 t R)
def mdels (D : List Al) (M : List ME) : List ME := D.foldl (fun M a => mdel a.id M) M
def outs (D : List Al) (L : List Al) : List Al := D.foldl (fun L a => outOf a.id L) L

theorem fold_lay {now lo0 lo1 hi1 lo2 hi2 : Int} : ∀ (l : List Al) (R : Nat → List Al), (∀ a, a ∈ l → 0 ≤ a.at_ ∧ okX now lo0 lo1 hi1 lo2 hi2 (plc now a.at_) a) → (∀ k a, a ∈ R k → okX now lo0 lo1 hi1 lo2 hi2 k a) →
    (∀ k a, a ∈ (l.foldl (laidR now) R) k → okX now lo0 lo1 hi1 lo2 hi2 k a) ∧ (allR (l.foldl (laidR now) R)).Perm (l ++ allR R)
  | [], R, _, h => ⟨h, .refl _⟩
  | x :: l, R, hl, h => by
    obtain ⟨h0, hx⟩ := hl x (.head _)
    have hlt : plc now x.at_ < 48 := plc_lt h0
    have ih := fold_lay l (laidR now R x) (fun a ha => hl a (.tail _ ha)) (fun k a ha => by
      unfold laidR at ha
      by_cases hk : k = plc now x.at_
      · subst hk
        rw [upd_same] at ha
        rcases List.mem_append.1 ha with ha | ha
        · exact h _ a ha
        · obtain rfl : a = x := by simpa using ha
          exact hx
      · rw [upd_ne _ _ hk] at ha; exact h k a ha)
    refine ⟨ih.1, ih.2.trans ?_⟩
    refine ((allR_push R hlt x).append_left l).trans ?_
    exact List.perm_middle
theorem allR_cut (R : Nat → List Al) {k : Nat} (hk : k < 48) : (R k ++ allR (upd R k [])).Perm (allR R) := (allR_out R hk).symm

theorem WInv.mid {now : Int} {R : Nat → List Al} {M : List ME} {L : List Al} (h : WInv now R M L) :
    (∀ k a, a ∈ pour2 (now + 1) R k → okX (now + 1) (now + 1) (now / 16 + 1) (now / 16 + 16) ((now + 1) / 256 + 1) ((now + 1) / 256 + 16) k a) ∧ (allR (pour2 (now + 1) R)).Perm L := by
  have hn0 := h.n0
  have hA : ∀ k a, a ∈ R k → okX (now + 1) (now + 1) (now / 16 + 1) (now / 16 + 16) (now / 256 + 1) (now / 256 + 16) k a := fun k a ha => by
    have := h.row k a ha
    unfold okAt okX at this
    unfold okX
    rcases this with ⟨q1, q2, q3, q4⟩ | ⟨q1, q2, q3, q4, q5⟩ | ⟨q1, q2, q3, q4, q5⟩
    · exact .inl ⟨q1, q2, by omega, q4⟩
    · exact .inr (.inl ⟨q1, q2, q3, q4, q5⟩)
    · exact .inr (.inr ⟨q1, q2, q3, q4, q5⟩)
  have hpos : ∀ k a, a ∈ R k → 0 ≤ a.at_ := fun k a ha => by have := (okAt_lt (h.row k a ha)).1; omega
  unfold pour2
  cases ht : decide ((now + 1) % 256 = 0) with
  | false =>
    have ht := of_decide_eq_false ht
    have e : (now + 1) / 256 = now / 256 := by omega
    rw [e]
    exact ⟨hA, h.perm⟩
  | true =>
    have ht := of_decide_eq_true ht
    have hk : k2 (now + 1) < 48 := by unfold k2; omega
    have hkk : ((k2 (now + 1) : Nat) : Int) = 32 + (now + 1) / 256 % 16 := by unfold k2; omega
    have hf := fold_lay (now := now + 1) (lo0 := now + 1) (lo1 := now / 16 + 1) (hi1 := now / 16 + 16) (lo2 := (now + 1) / 256 + 1) (hi2 := (now + 1) / 256 + 16) (R (k2 (now + 1))) (upd R (k2 (now + 1)) [])
    refine (fun g => ⟨g.1, g.2.trans ((allR_cut R hk).trans h.perm)⟩) (hf (fun a ha => ?_) (fun k a ha => ?_))
    · have h0 := hpos _ a ha
      refine ⟨h0, ?_⟩
      have := hA _ a ha
      unfold okX at this
      have hat : a.at_ / 256 = (now + 1) / 256 := by
        rcases this with ⟨q1, _⟩ | ⟨q1, q2, _⟩ | ⟨q1, q2, q3, q4, q5⟩
        · omega
        · omega
        · omega
      unfold okX
      rcases plc_eq (now := now + 1) h0 with ⟨q1, q2⟩ | ⟨q1, q2, q3⟩ | ⟨q1, q2⟩
      · exact .inl ⟨by omega, by omega, by omega, by omega⟩
      · exact .inr (.inl ⟨by omega, by omega, by omega, by omega, by omega⟩)
      · exact absurd q1 (by omega)
    · by_cases hkk2 : k = k2 (now + 1)
      · subst hkk2; rw [upd_same] at ha; cases ha
      · rw [upd_ne _ _ hkk2] at ha
        have := hA k a ha
        unfold okX at this ⊢
        rcases this with q | q | ⟨q1, q2, q3, q4, q5⟩
        · exact .inl q
        · exact .inr (.inl q)
        · refine .inr (.inr ⟨q1, q2, ?_, by omega, q5⟩)
          have : (k : Int) ≠ 32 + (now + 1) / 256 % 16 := by omega
          omega

theorem WInv.ready {now : Int} {R : Nat → List Al} {M : List ME} {L : List Al} (h : WInv now R M L) :
    (∀ k a, a ∈ readyR (now + 1) R k → okX (now + 1) (now + 1) ((now + 1) / 16 + 1) ((now + 1) / 16 + 16) ((now + 1) / 256 + 1) ((now + 1) / 256 + 16) k a) ∧ (allR (readyR (now + 1) R)).Perm L := by
  have hn0 := h.n0
  have hB := h.mid
  have hpos2 : ∀ k a, a ∈ pour2 (now + 1) R k → 0 ≤ a.at_ := fun k a ha => by
    have := hB.1 k a ha
    have hk : k < 48 := by unfold okX at this; omega
    have hm : a ∈ L := hB.2.mem_iff.1 (mem_allR.2 ⟨k, hk, ha⟩)
    have := h.due hm; omega
  unfold readyR pour1
  cases ht : decide ((now + 1) % 16 = 0) with
  | false =>
    have ht := of_decide_eq_false ht
    have e : (now + 1) / 16 = now / 16 := by omega
    rw [e]
    exact hB
  | true =>
    have ht := of_decide_eq_true ht
    have hk : k1 (now + 1) < 48 := by unfold k1; omega
    have hkk : ((k1 (now + 1) : Nat) : Int) = 16 + (now + 1) / 16 % 16 := by unfold k1; omega
    have hf := fold_lay (now := now + 1) (lo0 := now + 1) (lo1 := (now + 1) / 16 + 1) (hi1 := (now + 1) / 16 + 16) (lo2 := (now + 1) / 256 + 1) (hi2 := (now + 1) / 256 + 16) (pour2 (now + 1) R (k1 (now + 1))) (upd (pour2 (now + 1) R) (k1 (now + 1)) [])
    refine (fun g => ⟨g.1, g.2.trans ((allR_cut _ hk).trans hB.2)⟩) (hf (fun a ha => ?_) (fun k a ha => ?_))
    · have h0 := hpos2 _ a ha
      refine ⟨h0, ?_⟩
      have := hB.1 _ a ha
      unfold okX at this
      have hat : a.at_ / 16 = (now + 1) / 16 := by
        rcases this with ⟨q1, _⟩ | ⟨q1, q2, q3, q4, q5⟩ | ⟨q1, _⟩
        · omega
        · omega
        · omega
      unfold okX
      rcases plc_eq (now := now + 1) h0 with ⟨q1, q2⟩ | ⟨q1, q2, q3⟩ | ⟨q1, q2⟩
      · exact .inl ⟨by omega, by omega, by omega, by omega⟩
      · exact absurd q1 (by omega)
      · exact absurd q1 (by omega)
    · by_cases hkk2 : k = k1 (now + 1)
      · subst hkk2; rw [upd_same] at ha; cases ha
      · rw [upd_ne _ _ hkk2] at ha
        have := hB.1 k a ha
        unfold okX at this ⊢
        rcases this with q | ⟨q1, q2, q3, q4, q5⟩ | q
        · exact .inl q
        · refine .inr (.inl ⟨q1, q2, ?_, by omega, q5⟩)
          have : (k : Int) ≠ 16 + (now + 1) / 16 % 16 := by omega
          omega
        · exact .inr (.inr q)

theorem outs_filter : ∀ (D L : List Al), outs D L = L.filter fun x => !D.any fun a => isId a.id x
  | [], L => by
    have : (fun x : Al => !([] : List Al).any fun a => isId a.id x) = fun _ => true := rfl
    rw [this, List.filter_eq_self.2 fun _ _ => rfl]; rfl
  | a :: D, L => by
    have : outs (a :: D) L = outs D (outOf a.id L) := rfl
    rw [this, outs_filter D]
    unfold outOf
    rw [List.filter_filter]
    congr 1
    funext x
    simp only [List.any_cons, Bool.not_or]
    rw [Bool.and_comm]
theorem winv_outs {now : Int} : ∀ (D : List Al) {R : Nat → List Al} {M : List ME} {L : List Al}, WInv now R M L → ∃ R', WInv now R' (mdels D M) (outs D L)
  | [], R, _, _, h => ⟨R, h⟩
  | a :: D, _, _, _, h => winv_outs D (h.stop a.id)
theorem keys_one {L : List Al} (h : L.Pairwise fun a b => a.id ≠ b.id) {a b : Al} (ha : a ∈ L) (hb : b ∈ L) (he : a.id = b.id) : a = b := by
  obtain ⟨i, hi, rfl⟩ := List.mem_iff_getElem.1 ha
  obtain ⟨j, hj, rfl⟩ := List.mem_iff_getElem.1 hb
  rcases Nat.lt_trichotomy i j with h1 | h1 | h1
  · exact absurd he (List.pairwise_iff_getElem.1 h i j hi hj h1)
  · subst h1; rfl
  · exact absurd he.symm (List.pairwise_iff_getElem.1 h j i hj hi h1)

/-- Is one due then? -/
def isAt (t : Int) (a : Al) : Bool := decide (a.at_ = t)

/-- The wheel goes on by one tick. -/
theorem WInv.tick {now : Int} {R : Nat → List Al} {M : List ME} {L : List Al} (h : WInv now R M L) {D : List Al} (hD : D.Perm (readyR (now + 1) R (k0 (now + 1)))) :
    (∀ a, a ∈ D → a.at_ = now + 1) ∧ (L.filter (isAt (now + 1))).Perm D ∧ WInv (now + 1) (upd (readyR (now + 1) R) (k0 (now + 1)) []) (mdels D M) (L.filter fun a => !isAt (now + 1) a) := by
  have hn0 := h.n0
  obtain ⟨hr, hp⟩ := h.ready
  have hk : k0 (now + 1) < 16 := by unfold k0; omega
  have hkk : ((k0 (now + 1) : Nat) : Int) = (now + 1) % 16 := by unfold k0; omega
  have hdat : ∀ a, a ∈ readyR (now + 1) R (k0 (now + 1)) → a.at_ = now + 1 := fun a ha => by
    have := hr _ a ha
    unfold okX at this
    omega
  have hrest : ∀ k a, a ∈ upd (readyR (now + 1) R) (k0 (now + 1)) [] k → a.at_ ≠ now + 1 ∧ okAt (now + 1) k a := fun k a ha => by
    by_cases hkk2 : k = k0 (now + 1)
    · subst hkk2; rw [upd_same] at ha; cases ha
    · rw [upd_ne _ _ hkk2] at ha
      have := hr k a ha
      unfold okX at this
      unfold okAt okX
      rcases this with ⟨q1, q2, q3, q4⟩ | ⟨q1, q2, q3, q4, q5⟩ | ⟨q1, q2, q3, q4, q5⟩
      · have : (k : Int) ≠ (now + 1) % 16 := by omega
        exact ⟨by omega, .inl ⟨q1, by omega, by omega, q4⟩⟩
      · exact ⟨by omega, .inr (.inl ⟨q1, q2, by omega, q4, q5⟩)⟩
      · exact ⟨by omega, .inr (.inr ⟨q1, q2, by omega, q4, q5⟩)⟩
  have hout := allR_out (readyR (now + 1) R) (show k0 (now + 1) < 48 by omega)
  have hyes : (readyR (now + 1) R (k0 (now + 1))).filter (isAt (now + 1)) = readyR (now + 1) R (k0 (now + 1)) := List.filter_eq_self.2 fun a ha => decide_eq_true (hdat a ha)
  have hno : (allR (upd (readyR (now + 1) R) (k0 (now + 1)) [])).filter (isAt (now + 1)) = [] := List.filter_eq_nil_iff.2 fun a ha => by
    obtain ⟨k, _, hk⟩ := mem_allR.1 ha
    simpa [isAt] using (hrest k a hk).1
  have hyes' : (readyR (now + 1) R (k0 (now + 1))).filter (fun a => !isAt (now + 1) a) = [] := List.filter_eq_nil_iff.2 fun a ha => by
    simpa [isAt] using hdat a ha
  have hno' : (allR (upd (readyR (now + 1) R) (k0 (now + 1)) [])).filter (fun a => !isAt (now + 1) a) = allR (upd (readyR (now + 1) R) (k0 (now + 1)) []) := List.filter_eq_self.2 fun a ha => by
    obtain ⟨k, _, hk⟩ := mem_allR.1 ha
    simpa [isAt] using (hrest k a hk).1
  have hdue : (L.filter (isAt (now + 1))).Perm D := by
    have := (hp.symm.trans hout).filter (isAt (now + 1))
    rw [List.filter_append, hyes, hno, List.append_nil] at this
    exact this.trans hD.symm
  have hleft : (allR (upd (readyR (now + 1) R) (k0 (now + 1)) [])).Perm (L.filter fun a => !isAt (now + 1) a) := by
    have := (hp.symm.trans hout).filter (fun a => !isAt (now + 1) a)
    rw [List.filter_append, hyes', hno', List.nil_append] at this
    exact this.symm
  have hDat : ∀ a, a ∈ D → a.at_ = now + 1 := fun a ha => hdat a (hD.mem_iff.1 ha)
  obtain ⟨R', hM⟩ := winv_outs D h
  have hof : outs D L = L.filter fun a => !isAt (now + 1) a := by
    rw [outs_filter]
    apply List.filter_congr
    intro x hx
    congr 1
    unfold isAt
    by_cases hxt : x.at_ = now + 1
    · rw [decide_eq_true hxt]
      exact List.any_eq_true.2 ⟨x, hdue.mem_iff.1 (List.mem_filter.2 ⟨hx, decide_eq_true hxt⟩), decide_eq_true rfl⟩
    · rw [decide_eq_false hxt]
      refine List.any_eq_false.2 fun a ha hid => ?_
      have hal := (List.mem_filter.1 (hdue.mem_iff.2 ha)).1
      have := keys_one h.keys hx hal (of_decide_eq_true hid)
      rw [this] at hxt
      exact hxt (hDat a ha)
  rw [hof] at hM
  exact ⟨hDat, hdue, ⟨by omega, fun k a ha => (hrest k a ha).2, hleft, hM.keys, hM.map, hM.mkeys, hM.len⟩⟩

/-! ### A row in order -/
def Sorted (L : List Al) : Prop := L.Pairwise fun a b => aheadA a b = true
theorem ahead_iff {a b : Al} : aheadA a b = true ↔ a.at_ < b.at_ ∨ (a.at_ = b.at_ ∧ a.id < b.id) := by
  unfold aheadA
  cases h1 : decide (a.at_ < b.at_) with
  | true => exact ⟨fun _ => .inl (of_decide_eq_true h1), fun _ => rfl⟩
  | false =>
    have h1 := of_decide_eq_false h1
    cases h2 : decide (a.at_ = b.at_) with
    | true =>
      have h2 := of_decide_eq_true h2
      simp only [decide_eq_true_eq]
      exact ⟨fun h => .inr ⟨h2, h⟩, fun h => h.elim (fun h => absurd h h1) (·.2)⟩
    | false =>
      have h2 := of_decide_eq_false h2
      simp only [Bool.false_eq_true, false_iff]
      rintro (h | ⟨h, _⟩)
      · exact h1 h
      · exact h2 h
def upTo (t : Int) (a : Al) : Bool := decide (a.at_ ≤ t)
theorem take_filter {t : Int} : ∀ {L : List Al}, Sorted L → L.filter (upTo t) = L.takeWhile (upTo t) ∧ (L.filter fun a => !upTo t a) = L.dropWhile (upTo t)
  | [], _ => ⟨rfl, rfl⟩
  | a :: r, h => by
    obtain ⟨h1, h2⟩ := List.pairwise_cons.1 h
    obtain ⟨ih1, ih2⟩ := take_filter (t := t) h2
    cases ha : upTo t a with
    | true =>
      rw [List.filter_cons_of_pos ha, List.takeWhile_cons_of_pos ha, List.dropWhile_cons_of_pos ha, ih1, List.filter_cons_of_neg (by simp [ha]), ih2]
      exact ⟨rfl, rfl⟩
    | false =>
      have hall : ∀ x, x ∈ r → upTo t x = false := fun x hx => by
        have hax := ahead_iff.1 (h1 x hx)
        have ha := of_decide_eq_false ha
        exact decide_eq_false (by omega)
      rw [List.filter_cons_of_neg (by simp [ha]), List.takeWhile_cons_of_neg (by simp [ha]), List.dropWhile_cons_of_neg (by simp [ha]), List.filter_cons_of_pos (by simp [ha])]
      refine ⟨List.filter_eq_nil_iff.2 fun x hx => by simp [hall x hx], ?_⟩
      rw [List.filter_eq_self.2 fun x hx => by simp [hall x hx]]
/-- One tick, told by a row in order. -/
theorem WInv.tick_sorted {now : Int} {R : Nat → List Al} {M : List ME} {L : List Al} (h : WInv now R M L) (hs : Sorted L) {D : List Al} (hD : D.Perm (readyR (now + 1) R (k0 (now + 1)))) (hid : D.Pairwise fun a b => a.id < b.id) :
    D = L.takeWhile (upTo (now + 1)) ∧ WInv (now + 1) (upd (readyR (now + 1) R) (k0 (now + 1)) []) (mdels D M) (L.dropWhile (upTo (now + 1))) := by
  obtain ⟨h1, h2, h3⟩ := h.tick hD
  obtain ⟨h4, h5⟩ := take_filter (t := now + 1) hs
  have e1 : ∀ x, x ∈ L → upTo (now + 1) x = isAt (now + 1) x := fun x hx => by
    have := h.due hx
    exact decide_eq_decide.2 (by omega)
  rw [List.filter_congr e1] at h4
  rw [List.filter_congr fun x hx => by rw [e1 x hx]] at h5
  rw [h5] at h3
  refine ⟨?_, h3⟩
  rw [← h4]
  refine sorted_unique h2.symm hid ?_
  refine List.Pairwise.imp_of_mem (fun {a b} ha hb hab => ?_) (List.Pairwise.sublist List.filter_sublist hs)
  have g1 : a.at_ = now + 1 := of_decide_eq_true (List.mem_filter.1 ha).2
  have g2 : b.at_ = now + 1 := of_decide_eq_true (List.mem_filter.1 hb).2
  have := ahead_iff.1 hab
  omega
theorem take_more {t u : Int} (h : t ≤ u) (L : List Al) : L.takeWhile (upTo u) = L.takeWhile (upTo t) ++ (L.dropWhile (upTo t)).takeWhile (upTo u) ∧ L.dropWhile (upTo u) = (L.dropWhile (upTo t)).dropWhile (upTo u) := by
  induction L with
  | nil => exact ⟨rfl, rfl⟩
  | cons a r ih =>
    cases ha : upTo t a with
    | true =>
      have hau : upTo u a = true := decide_eq_true (by have := of_decide_eq_true ha; omega)
      rw [List.takeWhile_cons_of_pos hau, List.takeWhile_cons_of_pos ha, List.dropWhile_cons_of_pos ha, List.dropWhile_cons_of_pos hau, List.cons_append, ← ih.1]
      exact ⟨rfl, ih.2⟩
    | false =>
      rw [List.takeWhile_cons_of_neg (p := upTo t) (by simp [ha]), List.dropWhile_cons_of_neg (p := upTo t) (by simp [ha])]
      exact ⟨rfl, rfl⟩
theorem Sorted.drop {L : List Al} (h : Sorted L) (p : Al → Bool) : Sorted (L.dropWhile p) := List.Pairwise.sublist (List.dropWhile_sublist p) h
end Go.Proofs.Ytcbpdjikdohegaa.V
