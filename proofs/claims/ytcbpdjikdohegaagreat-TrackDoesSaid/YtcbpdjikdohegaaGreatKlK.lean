/-
  The plain law of the law TrackEnds: the row of what is due, and what is kept. No condition.
-/
import Derived.Test.YtcbpdjikdohegaaGreatK17
namespace Go.Proofs.YtcbpdjikdohegaaGreat.V
open Go.RowKit

structure SOk (N : Nat) (now : Int) (S : List En) : Prop where
  so : S.Pairwise fun x y => flK x.f < flK y.f
  fl : ∀ x, x ∈ S → FlOk x.f
  lim : ∀ x, x ∈ S → now < x.at_ ∧ x.at_ ≤ now + 4095
  le : S.length ≤ N
abbrev kf (x : En) : Fl × Int := (x.f, x.at_)
abbrev ff (x : En) : Fl := x.f

theorem SOk.nodup {N : Nat} {now : Int} {S : List En} (h : SOk N now S) : (S.map ff).Nodup := by
  refine List.pairwise_map.2 (h.so.imp fun {a b} hab e => ?_)
  have e : a.f = b.f := e
  rw [e] at hab
  omega
theorem so_map {S : List En} : (S.Pairwise fun x y => flK x.f < flK y.f) ↔ (S.map ff).Pairwise fun a b => flK a < flK b := (List.pairwise_map (f := ff) (R := fun a b => flK a < flK b)).symm

theorem filt_kf (f : Fl) (S : List En) : (S.filter fun x => !isFl f x).map kf = (S.map kf).filter fun q => !decide (q.1 = f) := by
  rw [List.filter_map]
  rfl
theorem dr_filt {due T : List En} (h : (due.map kf).Perm (T.map kf)) (f : Fl) : ((due.filter fun x => !isFl f x).map kf).Perm ((T.filter fun x => !isFl f x).map kf) := by
  rw [filt_kf, filt_kf]
  exact h.filter _
theorem filt_none {f : Fl} {S : List En} (h : S.findIdx? (isFl f) = none) : S.filter (fun x => !isFl f x) = S := List.filter_eq_self.2 fun x hx => by
  have := List.findIdx?_eq_none_iff.1 h x hx
  simp only [Bool.not_eq_true'] at this ⊢
  simpa using this
theorem filt_not {f : Fl} {S : List En} (h : ∀ x, x ∈ S → x.f ≠ f) : S.filter (fun x => !isFl f x) = S := List.filter_eq_self.2 fun x hx => by
  unfold isFl; simp [h x hx]
theorem filt_some {f : Fl} : ∀ {S : List En} {k : Nat}, (S.map ff).Nodup → S.findIdx? (isFl f) = some k → S.filter (fun x => !isFl f x) = S.eraseIdx k
  | [], _, _, h => by cases h
  | x :: r, k, hn, h => by
    obtain ⟨h1, h2⟩ := List.nodup_cons.1 hn
    rw [List.findIdx?_cons] at h
    cases hx : isFl f x with
    | true =>
      rw [hx] at h
      simp only [if_true, Option.some.injEq] at h
      subst h
      rw [List.filter_cons_of_neg (by simp [hx]), List.eraseIdx_cons_zero]
      have e : x.f = f := of_decide_eq_true hx
      exact filt_not fun y hy he => h1 (List.mem_map.2 ⟨y, hy, by show y.f = x.f; rw [he, e]⟩)
    | false =>
      rw [hx] at h
      simp only [Bool.false_eq_true, if_false, Option.map_eq_some_iff] at h
      obtain ⟨k', h3, rfl⟩ := h
      rw [List.filter_cons_of_pos (by simp [hx]), List.eraseIdx_cons_succ, filt_some h2 h3]
theorem set_erase {S : List En} {y : En} : ∀ {k : Nat} {x : En}, S[k]? = some x → (S.set k y).Perm (y :: S.eraseIdx k) := by
  induction S with
  | nil => intro k x h; cases h
  | cons a r ih =>
    intro k x h
    cases k with
    | zero => exact .refl _
    | succ k =>
      rw [List.set_cons_succ, List.eraseIdx_cons_succ]
      exact ((ih (k := k) (x := x) (by simpa using h)).cons a).trans (List.Perm.swap _ _ _)
theorem find_at {f : Fl} {S : List En} {k : Nat} (h : S.findIdx? (isFl f) = some k) : ∃ x, S[k]? = some x ∧ x.f = f := by
  obtain ⟨h1, h2, _⟩ := List.findIdx?_eq_some_iff_getElem.1 h
  exact ⟨S[k], List.getElem?_eq_getElem h1, of_decide_eq_true h2⟩
theorem kf_with {due T : List En} {f : Fl} {t : Int} (ht : 0 ≤ t) (h : ((due.filter fun x => !isFl f x).map kf).Perm (T.map kf)) : ((withS due f t).map kf).Perm ((f, t) :: T.map kf) := by
  unfold withS
  rw [decide_eq_true ht, List.map_append]
  exact List.perm_append_comm.trans (h.cons _)

theorem SOk.add {N : Nat} {now : Int} {S : List En} (h : SOk N now S) {e : En} (w : Int) (hf : FlOk e.f) (h0 : 0 ≤ now) :
    SOk N now (addS N S now e w).2 ∧ (addS N S now e w).2.length ≤ S.length + 1 ∧ ((addS N S now e w).1 = 0 → ∀ due, (due.map kf).Perm (S.map kf) → ((withS due e.f (now + w)).map kf).Perm ((addS N S now e w).2.map kf) ∧ now + w ≤ now + 4095) ∧ ((addS N S now e w).1 ≠ 0 → (addS N S now e w).2 = S) := by
  unfold addS
  cases g1 : decide (1 ≤ w ∧ w ≤ 4095) with
  | false => exact ⟨h, Nat.le_succ _, (fun h => by cases h), fun _ => rfl⟩
  | true =>
  have g1 := of_decide_eq_true g1
  cases g2 : S.findIdx? (isFl e.f) with
  | some k => exact ⟨h, Nat.le_succ _, (fun h => by cases h), fun _ => rfl⟩
  | none =>
  cases g3 : decide (S.length = N) with
  | true => exact ⟨h, Nat.le_succ _, (fun h => by cases h), fun _ => rfl⟩
  | false =>
  have g3 := of_decide_eq_false g3
  dsimp only
  have hle := h.le
  have hno : ∀ x, x ∈ S → x.f ≠ e.f := fun x hx he => by
    have := List.findIdx?_eq_none_iff.1 g2 x hx
    unfold isFl at this
    simp [he] at this
  have hlen : (S.take (jOf e.f S) ++ { e with at_ := now + w } :: S.drop (jOf e.f S)).length = S.length + 1 := by
    rw [List.length_append, List.length_cons, List.length_take, List.length_drop]; omega
  have hperm : (S.take (jOf e.f S) ++ { e with at_ := now + w } :: S.drop (jOf e.f S)).Perm ({ e with at_ := now + w } :: S) := by
    have := List.perm_middle (a := ({ e with at_ := now + w } : En)) (l₁ := S.take (jOf e.f S)) (l₂ := S.drop (jOf e.f S))
    rwa [List.take_append_drop] at this
  refine ⟨⟨?_, fun x hx => ?_, fun x hx => ?_, by rw [hlen]; omega⟩, by rw [hlen]; exact Nat.le_refl _, fun _ due hd => ⟨?_, by omega⟩, fun h => absurd rfl h⟩
  · have h1 := so_map.1 (ins_sorted (v := 0) hf h.fl h.so hno (jOf_at e.f S))
    refine so_map.2 ?_
    rw [List.map_append, List.map_cons] at h1 ⊢
    exact h1
  · rcases List.mem_cons.1 (hperm.mem_iff.1 hx) with rfl | hx
    · exact hf
    · exact h.fl x hx
  · rcases List.mem_cons.1 (hperm.mem_iff.1 hx) with rfl | hx
    · show now < now + w ∧ now + w ≤ now + 4095; omega
    · exact h.lim x hx
  · have h1 := dr_filt hd e.f
    rw [filt_none g2] at h1
    exact (kf_with (by omega) h1).trans (hperm.map kf).symm

theorem SOk.keep {N : Nat} {now : Int} {S : List En} (h : SOk N now S) {e : En} (w : Int) (h0 : 0 ≤ now) :
    SOk N now (keepS S now e w).2 ∧ (keepS S now e w).2.length = S.length ∧ ((keepS S now e w).1 = true → ∀ due, (due.map kf).Perm (S.map kf) → ((withS due e.f (now + w)).map kf).Perm ((keepS S now e w).2.map kf)) ∧ ((keepS S now e w).1 = false → (keepS S now e w).2 = S) := by
  unfold keepS
  cases g2 : S.findIdx? (isFl e.f) with
  | none => exact ⟨h, rfl, (fun h => by cases h), fun _ => rfl⟩
  | some k =>
  cases g1 : decide (1 ≤ w ∧ w ≤ 4095) with
  | false => exact ⟨h, rfl, (fun h => by cases h), fun _ => rfl⟩
  | true =>
  have g1 := of_decide_eq_true g1
  dsimp only
  obtain ⟨x, hx, hxf⟩ := find_at g2
  have hp := set_erase (y := { e with at_ := now + w }) hx
  refine ⟨⟨?_, fun y hy => ?_, fun y hy => ?_, by rw [List.length_set]; exact h.le⟩, List.length_set, fun _ due hd => ?_, fun h => by cases h⟩
  · refine so_map.2 ?_
    have e1 : (S.set k { e with at_ := now + w }).map ff = S.map ff := by
      rw [map_set]
      refine List.ext_getElem? fun j => ?_
      rw [List.getElem?_set]
      by_cases hj : k = j
      · subst hj
        have hl : k < (S.map ff).length := by rw [List.length_map]; exact (List.getElem?_eq_some_iff.1 hx).1
        rw [if_pos rfl, if_pos hl, List.getElem?_map, hx, Option.map_some]
        show some e.f = some x.f
        rw [hxf]
      · rw [if_neg hj]
    rw [e1]
    exact so_map.1 h.so
  · rcases List.mem_or_eq_of_mem_set hy with hy | rfl
    · exact h.fl y hy
    · show FlOk e.f
      rw [← hxf]; exact h.fl x (List.mem_of_getElem? hx)
  · rcases List.mem_or_eq_of_mem_set hy with hy | rfl
    · exact h.lim y hy
    · show now < now + w ∧ now + w ≤ now + 4095; omega
  · have h1 := dr_filt hd e.f
    rw [filt_some h.nodup g2] at h1
    exact (kf_with (by omega) h1).trans (hp.map kf).symm

theorem SOk.drop {N : Nat} {now : Int} {S : List En} (h : SOk N now S) (f : Fl) :
    SOk N now (dropS S f).2 ∧ (dropS S f).2.length ≤ S.length ∧ ∀ due, (due.map kf).Perm (S.map kf) → ((withS due f (-1)).map kf).Perm ((dropS S f).2.map kf) := by
  have e1 : ∀ due, withS due f (-1) = due.filter fun x => !isFl f x := fun due => by
    unfold withS
    rw [show decide ((0 : Int) ≤ -1) = false from rfl]
    exact List.append_nil _
  unfold dropS
  cases g2 : S.findIdx? (isFl f) with
  | none =>
    refine ⟨h, Nat.le_refl _, fun due hd => ?_⟩
    have h1 := dr_filt hd f
    rw [filt_none g2] at h1
    rw [e1]; exact h1
  | some k =>
    have hs := List.eraseIdx_sublist S k
    refine ⟨⟨h.so.sublist hs, fun x hx => h.fl x (hs.subset hx), fun x hx => h.lim x (hs.subset hx), Nat.le_trans hs.length_le h.le⟩, hs.length_le, fun due hd => ?_⟩
    have h1 := dr_filt hd f
    rw [filt_some h.nodup g2] at h1
    rw [e1]; exact h1

theorem SOk.turn {N : Nat} {now : Int} {S : List En} (h : SOk N now S) (c : Nat) : SOk N (now + c) (S.filter fun x => decide (now + (c : Int) < x.at_)) ∧ (dueS S now c ++ S.filter fun x => decide (now + (c : Int) < x.at_)).Perm S := by
  refine ⟨⟨h.so.sublist List.filter_sublist, fun x hx => h.fl x (List.mem_filter.1 hx).1, fun x hx => ?_, Nat.le_trans (List.length_filter_le _ _) h.le⟩, ?_⟩
  · obtain ⟨h1, h2⟩ := List.mem_filter.1 hx
    have := (h.lim x h1).2
    exact ⟨of_decide_eq_true h2, by omega⟩
  · refine ((dueS_perm (fun x hx => (h.lim x hx).1) c).append_right _).trans ((filter_or _ _ S fun x _ hh => ?_).trans (List.Perm.of_eq (List.filter_eq_self.2 fun x _ => ?_)))
    · have h1 := of_decide_eq_true hh.1
      have h2 := of_decide_eq_true hh.2
      omega
    · simp only [Bool.or_eq_true, decide_eq_true_eq]
      omega

end Go.Proofs.YtcbpdjikdohegaaGreat.V
