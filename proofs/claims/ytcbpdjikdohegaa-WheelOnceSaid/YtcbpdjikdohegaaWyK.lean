/-
  Deeds with a wheel, each told in one way whether it does anything or not; a row in order stays in order. Conditions: rows not too long, ticks not too great.
-/
import Derived.Test.YtcbpdjikdohegaaWvK
import Derived.Test.YtcbpdjikdohegaaWtK
import Derived.Test.YtcbpdjikdohegaaWwK
namespace Go.Proofs.Ytcbpdjikdohegaa.V
open Go.RowKit
attribute [local irreducible] Fn FnN OpVC Ob RowFn

def setRr (now : Int) (R : Nat → List Al) (M : List ME) (a : Al) : Nat → List Al := match setW now M a with
  | true => upd R (plc now a.at_) (R (plc now a.at_) ++ [a])
  | false => R
def setMm (now : Int) (M : List ME) (a : Al) (c : Nat) : List ME := match setW now M a with
  | true => M ++ [(a.id, a.at_, c)]
  | false => M
def setCc (now : Int) (M : List ME) (a : Al) (c : Nat) : Nat := match setW now M a with
  | true => c + 1
  | false => c
theorem set_u (F : List (Nat × D)) (now : Int) (R : Nat → List Al) (T U : List Al) (M : List ME) (c : Nat) (o2 : LO) (G : List Nat × Nat) (a : Al) {K : D → St → Prop}
    (hF : F.all (fun p => cutOk 6 5 p.2) = true) (hG : Nat.ble G.2 5 = true) (ho : ∀ r z n, LOLe r z n o2 o2) (hn : 0 ≤ now ∧ now ≤ 1099511600000) (ha : a.at_ ≤ 9223372036854775807) (hl : ∀ k, (R k).length ≤ 1000)
    (h : K (boolD (setW now M a)) ⟨F, WH now (setRr now R M a) T U (setMm now M a c) (setCc now M a c) o2, 53, G⟩) :
    CallVC Try.prog false 22 [.loc 0 0, .agg (alD a)] ⟨F, WH now R T U M c o2, 53, G⟩ K := by
  unfold setRr setMm setCc at h
  refine set_vc F now R T U M c o2 G a hF hG ho hn ha hl (fun hs => ?_) (fun hs => ?_)
  · rw [hs] at h; exact h
  · rw [hs] at h; exact h
theorem setq_eq {now : Int} {R : Nat → List Al} {M : List ME} {L : List Al} (h : WInv now R M L) (a : Al) : setQ now L a = setW now M a := by
  unfold setQ setW
  cases h1 : decide (a.at_ ≤ now) with
  | true => rfl
  | false =>
    have : decide (now + 4095 < a.at_) = decide (4095 < a.at_ - now) := by
      apply decide_eq_decide.2; omega
    rw [this, h.has, findI_nonneg]
    rfl
theorem WInv.setu {now : Int} {R : Nat → List Al} {M : List ME} {L : List Al} (h : WInv now R M L) (a : Al) (c : Nat) : WInv now (setRr now R M a) (setMm now M a c) (setL now L a) := by
  unfold setRr setMm setL
  rw [setq_eq h a]
  cases hs : setW now M a with
  | false => exact h
  | true => exact (h.set c hs).perm_of (insF_perm a L).symm
theorem setL_len (now : Int) (L : List Al) (a : Al) : (setL now L a).length ≤ L.length + 1 := by
  unfold setL
  cases setQ now L a with
  | false => exact Nat.le_succ _
  | true => rw [(insF_perm a L).length_eq]; exact Nat.le_refl _
theorem setL_mem {now : Int} {L : List Al} {a x : Al} (hx : x ∈ setL now L a) : x ∈ L ∨ (x = a ∧ a.at_ ≤ now + 4095) := by
  unfold setL at hx
  cases hq : setQ now L a with
  | false => rw [hq] at hx; exact .inl hx
  | true =>
    rw [hq] at hx
    rcases List.mem_cons.1 ((insF_perm a L).mem_iff.1 hx) with h | h
    · refine .inr ⟨h, ?_⟩
      unfold setQ at hq
      split at hq
      · cases hq
      · split at hq
        · cases hq
        · rename_i h2; have := of_decide_eq_false h2; omega
    · exact .inl h

theorem ahead_total {a x : Al} (h : aheadA a x = false) (hid : a.id ≠ x.id) : aheadA x a = true := by
  rw [ahead_iff]
  have h1 : ¬ (a.at_ < x.at_ ∨ a.at_ = x.at_ ∧ a.id < x.id) := fun e => by rw [ahead_iff.2 e] at h; cases h
  omega
theorem ahead_trans {a b c : Al} (h : aheadA a b = true) (k : aheadA b c = true) : aheadA a c = true := by
  rw [ahead_iff] at *; omega
theorem insP_shape (a : Al) (L : List Al) : ∀ k, k ≤ L.length → match (insP a L k).2 with
    | false => (insP a L k).1 = L.take k ∧ ∀ x, x ∈ L.take k → aheadA a x = false
    | true => ∃ u y v, L.take k = u ++ y :: v ∧ (insP a L k).1 = u ++ a :: y :: v ∧ (∀ x, x ∈ u → aheadA a x = false) ∧ aheadA a y = true
  | 0, _ => ⟨rfl, fun x hx => by cases hx⟩
  | k + 1, hk => by
    have ih := insP_shape a L k (by omega)
    have hx : L[k]? = some L[k] := List.getElem?_eq_getElem hk
    rw [insP, hx, take_snoc hx]
    generalize insP a L k = st at ih
    obtain ⟨o, i⟩ := st
    cases i with
    | true =>
      obtain ⟨u, y, v, h1, h2, h3, h4⟩ := ih
      exact ⟨u, y, v ++ [L[k]], by rw [h1]; simp, by show o ++ [L[k]] = _; rw [show o = _ from h2]; simp, h3, h4⟩
    | false =>
      obtain ⟨h1, h2⟩ := ih
      cases hA : aheadA a L[k] with
      | true =>
        simp only [hA]
        exact ⟨L.take k, L[k], [], rfl, by rw [show o = _ from h1]; simp, h2, hA⟩
      | false =>
        simp only [hA]
        refine ⟨by rw [show o = _ from h1], fun x hxm => ?_⟩
        rcases List.mem_append.1 hxm with h | h
        · exact h2 x h
        · obtain rfl : x = L[k] := by simpa using h
          exact hA
theorem insF_sorted {a : Al} {L : List Al} (hs : Sorted L) (hid : ∀ x, x ∈ L → a.id ≠ x.id) : Sorted (insF a L) := by
  have h := insP_shape a L L.length (Nat.le_refl _)
  rw [List.take_length] at h
  unfold insF
  generalize insP a L L.length = st at h
  obtain ⟨o, i⟩ := st
  cases i with
  | false =>
    obtain ⟨h1, h2⟩ := h
    show Sorted (o ++ [a])
    rw [show o = L from h1]
    exact List.pairwise_append.2 ⟨hs, List.pairwise_singleton _ _, fun x hx y hy => by
      obtain rfl : y = a := by simpa using hy
      exact ahead_total (h2 x hx) (hid x hx)⟩
  | true =>
    obtain ⟨u, y, v, h1, h2, h3, h4⟩ := h
    show Sorted o
    rw [show o = _ from h2]
    rw [h1] at hs hid
    obtain ⟨s1, s2, s3⟩ := List.pairwise_append.1 hs
    obtain ⟨s4, s5⟩ := List.pairwise_cons.1 s2
    refine List.pairwise_append.2 ⟨s1, List.pairwise_cons.2 ⟨fun x hx => ?_, s2⟩, fun x hx z hz => ?_⟩
    · rcases List.mem_cons.1 hx with rfl | hx
      · exact h4
      · exact ahead_trans h4 (s4 x hx)
    · rcases List.mem_cons.1 hz with rfl | hz
      · exact ahead_total (h3 x hx) (hid x (List.mem_append_left _ hx))
      · exact s3 x hx z hz
theorem setL_sorted {now : Int} {L : List Al} {a : Al} (hs : Sorted L) : Sorted (setL now L a) := by
  unfold setL
  cases hq : setQ now L a with
  | false => exact hs
  | true =>
    refine insF_sorted hs fun x hx he => ?_
    unfold setQ at hq
    split at hq
    · cases hq
    · split at hq
      · cases hq
      · split at hq
        · cases hq
        · rename_i h3
          rw [findI_nonneg] at h3
          exact List.any_eq_false.1 h3 x hx (decide_eq_true he.symm)

theorem mdel_id {n : Int} : ∀ {M : List ME}, mfind n M = none → mdel n M = M
  | [], _ => rfl
  | x :: r, h => by
    rw [mfind] at h
    by_cases hn : n = x.1
    · rw [if_pos hn] at h; cases h
    · rw [if_neg hn] at h; rw [mdel, if_neg hn, mdel_id h]
theorem stop_u (F : List (Nat × D)) (now : Int) (R : Nat → List Al) (T U : List Al) (M : List ME) (c : Nat) (o2 : LO) (G : List Nat × Nat) (n : Int) (L : List Al) {K : D → St → Prop}
    (hF : F.all (fun p => cutOk 6 5 p.2) = true) (hG : Nat.ble G.2 5 = true) (ho : ∀ r z n, LOLe r z n o2 o2) (hi : WInv now R M L) (hL : L.length ≤ 1000)
    (h : K (boolD (L.any (isId n))) ⟨F, WH now (fun j => outOf n (R j)) T U (mdel n M) c o2, 53, G⟩) :
    CallVC Try.prog false 27 [.loc 0 0, intD n] ⟨F, WH now R T U M c o2, 53, G⟩ K := by
  refine stop_vc F now R T U M c o2 G n hF hG ho (fun j => by have := hi.rows_len j; omega) (fun h0 => ?_) (fun h1 => ?_)
  · have hno : L.any (isId n) = false := by rw [← hi.has, h0]; rfl
    have e : (fun j => outOf n (R j)) = R := by
      funext j
      exact outOf_none fun x hx => by
        have := List.any_eq_false.1 hno x (hi.mem hx)
        simpa using this
    rw [hno, e, mdel_id h0] at h
    exact h
  · have hyes : L.any (isId n) = true := by rw [← hi.has]; exact h1
    rw [hyes] at h
    exact h
theorem now_vc (F : List (Nat × D)) (now : Int) (R : Nat → List Al) (T U : List Al) (M : List ME) (c : Nat) (o2 : LO) (G : List Nat × Nat) {K : D → St → Prop} (hF : F.all (fun p => cutOk 6 5 p.2) = true) (hG : Nat.ble G.2 5 = true) (ho : ∀ r z n, LOLe r z n o2 o2)
    (hK : K (intD now) ⟨F, WH now R T U M c o2, 53, G⟩) : CallVC Try.prog false 34 [.loc 0 0] ⟨F, WH now R T U M c o2, 53, G⟩ K := by
  refine toIn 5 [] Try.func34 rfl (by kernel_rfl) (Nat.le_of_ble_eq_true rfl) (by decide) hG rfl hF ?_
  conv => whnf
  refine ⟨[], [], intD now, WH now R T U M c o2, 53, ?_, hK⟩
  repeat' (first | exact trivial | exact .inl (DLe.refl _) | exact .inl (DLe.nil _ _) | (refine .inr ⟨rfl, _, ?_, rfl⟩; rfl) | exact rfl | exact Nat.zero_le _ | constructor)
  exact ho _ _ _
theorem at_vc (F : List (Nat × D)) (now : Int) (R : Nat → List Al) (T U : List Al) (M : List ME) (c : Nat) (o2 : LO) (G : List Nat × Nat) (n : Int) {K : D → St → Prop} (hF : F.all (fun p => cutOk 6 5 p.2) = true) (hG : Nat.ble G.2 5 = true) (ho : ∀ r z n, LOLe r z n o2 o2)
    (hK : K (.tup [intD ((mfind n M).getD 0), boolD (mfind n M).isSome]) ⟨F, WH now R T U M c o2, 53, G⟩) : CallVC Try.prog false 32 [.loc 0 0, intD n] ⟨F, WH now R T U M c o2, 53, G⟩ K := by
  refine toIn 5 [] Try.func32 rfl (by kernel_rfl) (Nat.le_of_ble_eq_true rfl) (by decide) hG rfl hF ?_
  conv => whnf
  refine op_lookup rfl imap_ok rfl rfl rfl ?_
  conv => whnf
  refine ⟨[], [], .tup [intD ((mfind n M).getD 0), boolD (mfind n M).isSome], WH now R T U M c o2, 53, ?_, hK⟩
  repeat' (first | exact trivial | exact .inl (DLe.refl _) | exact .inl (DLe.nil _ _) | (refine .inr ⟨rfl, _, ?_, rfl⟩; rfl) | exact rfl | exact Nat.zero_le _ | constructor)
  exact ho _ _ _
theorem look_cases {now : Int} {R : Nat → List Al} {M : List ME} {L : List Al} (h : WInv now R M L) (n : Int) : (mfind n M = none ∧ findI (isId n) L = -1) ∨ ∃ (k : Nat) (y : Al), findI (isId n) L = k ∧ L[k]? = some y ∧ mfind n M = some y.at_ := by
  rcases findI_cases (isId n) L with ⟨h1, h2⟩ | ⟨k, y, h1, h2, h3, _⟩
  · refine .inl ⟨?_, h1⟩
    cases hm : mfind n M with
    | none => rfl
    | some v =>
      obtain ⟨a, g1, g2, _⟩ := (h.map n v).1 hm
      have := h2 a g1
      rw [show isId n a = true from decide_eq_true g2] at this; cases this
  · exact .inr ⟨k, y, h1, h2, (h.map n y.at_).2 ⟨y, List.mem_of_getElem? h2, of_decide_eq_true h3, rfl⟩⟩
theorem now_rd (now : Int) (X : List D) : FnN Try.prog 34 [.fp (intD now :: X)] fun d => d = intD now := by
  refine fnNOf [] Try.func34 rfl (by kernel_rfl) (Nat.le_of_ble_eq_true rfl) ?_
  conv => whnf
  exact ⟨rfl, rfl⟩
end Go.Proofs.Ytcbpdjikdohegaa.V
