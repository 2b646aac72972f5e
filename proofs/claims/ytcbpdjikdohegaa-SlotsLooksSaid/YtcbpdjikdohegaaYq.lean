/-
  Slots and the document's row: what holds between them. No condition.
-/
import Derived.Test.YtcbpdjikdohegaaYp
namespace Go.Proofs.Ytcbpdjikdohegaa.V

theorem erase_perm {α : Type} : ∀ {S : List α} {k : Nat} {x : α}, S[k]? = some x → (x :: S.eraseIdx k).Perm S
  | [], _, _, h => by cases h
  | a :: r, 0, x, h => by
    obtain rfl : a = x := by simpa using h
    exact .refl _
  | a :: r, k + 1, x, h => by
    have ih := erase_perm (S := r) (k := k) (x := x) (by simpa using h)
    rw [List.eraseIdx_cons_succ]
    exact (List.Perm.swap _ _ _).trans (ih.cons a)

structure SRel (lo hi : Int) (N : Nat) (L : List Sl) (n : Nat) (S : List En) : Prop where
  ok : SlOk lo hi L n
  len : L.length = N
  so : S.Pairwise fun x y => flK x.f < flK y.f
  perm : S.Perm ((ents L).map enS)

theorem SRel.size {lo hi : Int} {N : Nat} {L : List Sl} {n : Nat} {S : List En} (h : SRel lo hi N L n S) : S.length = n ∧ n ≤ 256 := by
  have h1 := h.perm.length_eq
  rw [List.length_map] at h1
  have h2 := h.ok.cnt
  have h3 := h.ok.le
  have h4 : (ents L).length ≤ L.length := List.length_filter_le _ _
  omega
theorem SRel.flok {lo hi : Int} {N : Nat} {L : List Sl} {n : Nat} {S : List En} (h : SRel lo hi N L n S) : ∀ x, x ∈ S → FlOk x.f := fun x hx => by
  obtain ⟨y, hy, rfl⟩ := List.mem_map.1 (h.perm.mem_iff.1 hx)
  exact h.ok.fl y (List.mem_filter.1 hy).1
/-- Who is found in the one is found in the other. -/
theorem SRel.find_is {lo hi : Int} {N : Nat} {L : List Sl} {n : Nat} {S : List En} (h : SRel lo hi N L n S) {f : Fl} {p m : Nat} (hq : fnd L f (homeN lo hi L.length f) L.length 0 = (p, m, true)) :
    ∃ k, S.findIdx? (isFl f) = some k ∧ S[k]? = some (enS (at_ L p)) := by
  obtain ⟨hp, hf, he⟩ := V.find_is h.ok.ok.pos hq
  have hmem : enS (at_ L p) ∈ S := h.perm.mem_iff.2 (List.mem_map.2 ⟨_, mem_ents.2 ⟨p, hp, hf, rfl⟩, rfl⟩)
  cases hk : S.findIdx? (isFl f) with
  | none =>
    have := List.findIdx?_eq_none_iff.1 hk _ hmem
    have : decide ((at_ L p).f = f) = false := this
    rw [he] at this; simp at this
  | some k =>
    obtain ⟨hkl, hk1, _⟩ := List.findIdx?_eq_some_iff_getElem.1 hk
    refine ⟨k, rfl, ?_⟩
    rw [List.getElem?_eq_getElem hkl]
    have hin : S[k] ∈ S := List.getElem_mem hkl
    obtain ⟨y, hy, hye⟩ := List.mem_map.1 (h.perm.mem_iff.1 hin)
    obtain ⟨q, hq1, hq2, rfl⟩ := mem_ents.1 hy
    have e1 : (at_ L q).f = f := by
      have : decide (S[k].f = f) = true := hk1
      rw [← hye] at this
      exact of_decide_eq_true this
    have := h.ok.ok.once q p hq1 hp hq2 hf (e1.trans he.symm)
    rw [← hye, this]
theorem SRel.find_not {lo hi : Int} {N : Nat} {L : List Sl} {n : Nat} {S : List En} (h : SRel lo hi N L n S) {f : Fl} {p m : Nat} (hq : fnd L f (homeN lo hi L.length f) L.length 0 = (p, m, false)) : S.findIdx? (isFl f) = none := by
  refine List.findIdx?_eq_none_iff.2 fun x hx => ?_
  obtain ⟨y, hy, rfl⟩ := List.mem_map.1 (h.perm.mem_iff.1 hx)
  obtain ⟨q, hq1, hq2, rfl⟩ := mem_ents.1 hy
  refine decide_eq_false fun he => ?_
  have he : (at_ L q).f = f := he
  obtain ⟨m', hm, _⟩ := h.ok.ok.find_in hq1 hq2
  rw [he, hq] at hm
  injection hm with _ hm; injection hm with _ hm; cases hm

theorem ins_sorted {f : Fl} {v : Int} {S : List En} {j : Nat} (hf : FlOk f) (hfl : ∀ x, x ∈ S → FlOk x.f) (hso : S.Pairwise fun x y => flK x.f < flK y.f) (hno : ∀ x, x ∈ S → x.f ≠ f) (hI : InsAt f S j) : (S.take j ++ enP f v :: S.drop j).Pairwise fun x y => flK x.f < flK y.f := by
  have hlt : ∀ x, x ∈ S.take j → flK x.f < flK f := fun x hx => by
    obtain ⟨m, hm⟩ := List.getElem?_of_mem hx
    have hml : m < j := by have := (List.getElem?_eq_some_iff.1 hm).1; rw [List.length_take] at this; omega
    rw [List.getElem?_take_of_lt hml] at hm
    have h1 := hI.lo m x hml hm
    have h2 : flK x.f ≠ flK f := fun he => hno x (List.mem_of_getElem? hm) (flK_inj (hfl x (List.mem_of_getElem? hm)) hf he)
    omega
  have hgt : ∀ x, x ∈ S.drop j → flK f < flK x.f := fun x hx => by
    obtain ⟨m, hm⟩ := List.getElem?_of_mem hx
    rw [List.getElem?_drop] at hm
    have hjl : j < S.length := by have := (List.getElem?_eq_some_iff.1 hm).1; omega
    obtain ⟨y, hy⟩ : ∃ y, S[j]? = some y := ⟨_, List.getElem?_eq_getElem hjl⟩
    have h1 := hI.hi y hy
    rcases Nat.eq_zero_or_pos m with h0 | h0
    · subst h0
      rw [Nat.add_zero, hy] at hm; injection hm with hm; subst hm; exact h1
    · have h2 := pairwise_get.1 hso (j + m) j x y (by omega) hm hy
      omega
  have hS : (S.take j ++ S.drop j).Pairwise fun x y => flK x.f < flK y.f := by rw [List.take_append_drop]; exact hso
  obtain ⟨s1, s2, s3⟩ := List.pairwise_append.1 hS
  refine List.pairwise_append.2 ⟨s1, List.pairwise_cons.2 ⟨hgt, s2⟩, fun x hx y hy => ?_⟩
  rcases List.mem_cons.1 hy with rfl | hy
  · exact hlt x hx
  · exact s3 x hx y hy

theorem SRel.put {lo hi : Int} {N : Nat} {L : List Sl} {n : Nat} {S : List En} (h : SRel lo hi N L n S) {f : Fl} (hf : FlOk f) {v : Int} {p m j : Nat} (hq : fnd L f (homeN lo hi L.length f) L.length 0 = (p, m, false)) (hn : n ≠ L.length) (hI : InsAt f S j) :
    SRel lo hi N (L.set p ⟨f, v, true⟩) (n + 1) (S.take j ++ enP f v :: S.drop j) := by
  have hpos := h.ok.ok.pos
  have hnf : ¬ Full L p := fun hfp => by
    obtain ⟨hp, hw⟩ := V.find_not hpos hq
    rcases hw with ⟨h1, _⟩ | ⟨_, h1⟩
    · exact h1 hfp
    · have hall := all_full hpos (h.ok.ok.home f) h1
      have := ents_full hall
      have h2 := h.ok.cnt
      rw [this] at h2
      exact hn h2
  obtain ⟨h1, h2⟩ := h.ok.ok.put (v := v) hq hnf
  have hno : ∀ x, x ∈ S → x.f ≠ f := fun x hx he => by
    have := List.findIdx?_eq_none_iff.1 (h.find_not hq) x hx
    have : decide (x.f = f) = false := this
    rw [he] at this; simp at this
  refine ⟨⟨by rw [List.length_set]; exact h1, fun x hx => ?_, by rw [List.length_set]; exact h.ok.le, ?_⟩, by rw [List.length_set]; exact h.len, ins_sorted hf h.flok h.so hno hI, ?_⟩
  · rcases List.mem_or_eq_of_mem_set hx with hx | rfl
    · exact h.ok.fl x hx
    · exact hf
  · have := h2.length_eq
    rw [List.length_cons] at this
    have := h.ok.cnt
    omega
  · have e1 : (S.take j ++ enP f v :: S.drop j).Perm (enP f v :: S) := by
      have := (List.perm_middle (a := enP f v) (l₁ := S.take j) (l₂ := S.drop j))
      rwa [List.take_append_drop] at this
    exact e1.trans ((h.perm.cons _).trans ((h2.map enS).symm))

theorem SRel.drop {lo hi : Int} {N : Nat} {L : List Sl} {n : Nat} {S : List En} (h : SRel lo hi N L n S) {f : Fl} {p m k : Nat} {L' : List Sl} (hq : fnd L f (homeN lo hi L.length f) L.length 0 = (p, m, true)) (hk : S.findIdx? (isFl f) = some k)
    (h1 : SlOk lo hi L' (n - 1)) (h2 : L'.length = L.length) (h3 : (ents L).Perm (at_ L p :: ents L')) : SRel lo hi N L' (n - 1) (S.eraseIdx k) := by
  obtain ⟨k', hk', hx⟩ := h.find_is hq
  rw [hk] at hk'; injection hk' with hk'; subst hk'
  refine ⟨h1, h2.trans h.len, h.so.sublist (List.eraseIdx_sublist _ _), ?_⟩
  obtain ⟨hkl, hxe⟩ := List.getElem?_eq_some_iff.1 hx
  have e1 : S.Perm (enS (at_ L p) :: S.eraseIdx k) := by
    exact (erase_perm hx).symm
  have e2 := (e1.symm.trans h.perm).trans (h3.map enS)
  rw [List.map_cons] at e2
  exact (List.perm_cons _).1 e2

theorem SRel.new (lo hi n : Int) : SRel lo hi (slN n) (List.replicate (slN n) sl0) 0 [] := by
  refine ⟨new_ok lo hi n, List.length_replicate, .nil, ?_⟩
  have := (new_ok lo hi n).cnt
  rw [List.eq_nil_of_length_eq_zero this.symm]
  exact .refl _
end Go.Proofs.Ytcbpdjikdohegaa.V
