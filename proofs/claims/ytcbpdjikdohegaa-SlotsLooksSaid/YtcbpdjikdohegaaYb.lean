/-
  A table of open addressing, by value: looking, putting, dropping. No condition.
-/
import Derived.Test.YtcbpdjikdohegaaYa
namespace Go.Proofs.Ytcbpdjikdohegaa.V

/-- A flow. -/
structure Fl where
  src : Int
  dst : Int
  sp : Int
  dp : Int
  pr : Int
deriving DecidableEq
/-- A place of the table. -/
structure Sl where
  f : Fl
  v : Int
  full : Bool
deriving DecidableEq
def fl0 : Fl := ⟨0, 0, 0, 0, 0⟩
def sl0 : Sl := ⟨fl0, 0, false⟩

/-- Looking for a flow from a home on: so many places are left, so many were looked at: where, how many, is it there? -/
def fnd (L : List Sl) (f : Fl) (a : Nat) : Nat → Nat → Nat × Nat × Bool
  | 0, i => ((a + i) % L.length, L.length, false)
  | k + 1, i => match (L[(a + i) % L.length]?).getD sl0 with
    | x => match x.full with
      | false => ((a + i) % L.length, i + 1, false)
      | true => match decide (x.f = f) with
        | true => ((a + i) % L.length, i + 1, true)
        | false => fnd L f a k (i + 1)
abbrev at_ (L : List Sl) (p : Nat) : Sl := (L[p]?).getD sl0
abbrev Full (L : List Sl) (p : Nat) : Prop := (at_ L p).full = true
theorem fnd_spec (L : List Sl) (f : Fl) (a : Nat) : ∀ k i, i + k = L.length → (∀ j, j < i → Full L ((a + j) % L.length) ∧ (at_ L ((a + j) % L.length)).f ≠ f) →
    (∃ j, j < L.length ∧ (∀ u, u < j → Full L ((a + u) % L.length) ∧ (at_ L ((a + u) % L.length)).f ≠ f) ∧ ((¬ Full L ((a + j) % L.length) ∧ fnd L f a k i = ((a + j) % L.length, j + 1, false)) ∨ (Full L ((a + j) % L.length) ∧ (at_ L ((a + j) % L.length)).f = f ∧ fnd L f a k i = ((a + j) % L.length, j + 1, true)))) ∨
    ((∀ j, j < L.length → Full L ((a + j) % L.length) ∧ (at_ L ((a + j) % L.length)).f ≠ f) ∧ fnd L f a k i = ((a + L.length) % L.length, L.length, false))
  | 0, i, hi, hb => by
    obtain rfl : i = L.length := by omega
    exact .inr ⟨hb, rfl⟩
  | k + 1, i, hi, hb => by
    rw [fnd]
    cases h1 : (at_ L ((a + i) % L.length)).full with
    | false => exact .inl ⟨i, by omega, hb, .inl ⟨by simp [Full, h1], rfl⟩⟩
    | true =>
      simp only
      by_cases h2 : (at_ L ((a + i) % L.length)).f = f
      · refine .inl ⟨i, by omega, hb, .inr ⟨h1, h2, ?_⟩⟩
        rw [decide_eq_true h2]
      · rw [decide_eq_false h2]
        exact fnd_spec L f a k (i + 1) (by omega) fun j hj => by
          by_cases hji : j = i
          · subst hji; exact ⟨h1, h2⟩
          · exact hb j (by omega)

/-- What holds of a table whose homes are such: nothing empty on the way, nobody twice. -/
structure TOk (h : Fl → Nat) (L : List Sl) : Prop where
  pos : 0 < L.length
  home : ∀ f, h f < L.length
  way : ∀ p, p < L.length → Full L p → ∀ i, i < dist L.length (h (at_ L p).f) p → Full L ((h (at_ L p).f + i) % L.length)
  once : ∀ p q, p < L.length → q < L.length → Full L p → Full L q → (at_ L p).f = (at_ L q).f → p = q
/-- Those who are there. -/
def ents (L : List Sl) : List Sl := L.filter (·.full)
theorem at_eq {L : List Sl} {p : Nat} (h : p < L.length) : L[p]? = some (at_ L p) := by
  rw [List.getElem?_eq_getElem h]; simp [at_, h]
theorem at_set {L : List Sl} {p q : Nat} {x : Sl} (h : p < L.length) : at_ (L.set p x) q = if p = q then x else at_ L q := by
  unfold at_
  rw [List.getElem?_set]
  by_cases hp : p = q
  · rw [if_pos hp, if_pos hp, if_pos h]; rfl
  · rw [if_neg hp, if_neg hp]
theorem mem_ents {L : List Sl} {x : Sl} : x ∈ ents L ↔ ∃ p, p < L.length ∧ Full L p ∧ at_ L p = x := by
  unfold ents
  constructor
  · intro h
    obtain ⟨h1, h2⟩ := List.mem_filter.1 h
    obtain ⟨p, hp, rfl⟩ := List.mem_iff_getElem.1 h1
    have : at_ L p = L[p] := by simp [at_, hp]
    exact ⟨p, hp, by rw [Full, this]; exact h2, this⟩
  · rintro ⟨p, hp, h1, rfl⟩
    exact List.mem_filter.2 ⟨List.mem_of_getElem? (at_eq hp), h1⟩

section
variable {h : Fl → Nat} {L : List Sl}
/-- Who is there is found. -/
theorem TOk.find_in (ok : TOk h L) {p : Nat} (hp : p < L.length) (hf : Full L p) : ∃ n, fnd L (at_ L p).f (h (at_ L p).f) L.length 0 = (p, n, true) ∧ 1 ≤ n ∧ n ≤ L.length ∧ ∀ u, u < n → Full L ((h (at_ L p).f + u) % L.length) := by
  have hd := dist_lt (a := h (at_ L p).f) (p := p) ok.pos
  have ha := ok.home (at_ L p).f
  have hpd : (h (at_ L p).f + dist L.length (h (at_ L p).f) p) % L.length = p := dist_add ha hp
  rcases fnd_spec L (at_ L p).f (h (at_ L p).f) L.length 0 (by omega) (fun j hj => by omega) with ⟨j, h1, h2, h3⟩ | ⟨h1, _⟩
  · have hje : j = dist L.length (h (at_ L p).f) p := by
      rcases Nat.lt_trichotomy j (dist L.length (h (at_ L p).f) p) with hlt | heq | hgt
      · rcases h3 with ⟨h3, _⟩ | ⟨h3, h4, _⟩
        · exact absurd (ok.way p hp hf j hlt) h3
        · have := ok.once _ p (Nat.mod_lt _ ok.pos) hp h3 hf h4
          have h5 := add_dist (i := j) ha h1
          rw [this] at h5
          exact h5.symm
      · exact heq
      · have := (h2 _ hgt).2
        rw [hpd] at this
        exact absurd rfl this
    rw [← hje] at hpd
    rcases h3 with ⟨h3, _⟩ | ⟨_, _, h4⟩
    · rw [hpd] at h3; exact absurd hf h3
    · rw [hpd] at h4
      refine ⟨j + 1, h4, by omega, by omega, fun u hu => ?_⟩
      by_cases huj : u = j
      · rw [huj, hpd]; exact hf
      · exact (h2 u (by omega)).1
  · have := (h1 _ hd).2
    rw [hpd] at this
    exact absurd rfl this
/-- Whoever is found is there. -/
theorem find_is {f : Fl} {a p n : Nat} (hpos : 0 < L.length) (hq : fnd L f a L.length 0 = (p, n, true)) : p < L.length ∧ Full L p ∧ (at_ L p).f = f := by
  rcases fnd_spec L f a L.length 0 (by omega) (fun j hj => by omega) with ⟨j, h1, h2, ⟨_, h4⟩ | ⟨h3, h4, h5⟩⟩ | ⟨_, h1⟩
  · rw [h4] at hq; injection hq with _ hq; injection hq with _ hq; cases hq
  · rw [h5] at hq; injection hq with hq _; subst hq
    exact ⟨Nat.mod_lt _ hpos, h3, h4⟩
  · rw [h1] at hq; injection hq with _ hq; injection hq with _ hq; cases hq
theorem find_not {f : Fl} {a p n : Nat} (hpos : 0 < L.length) (hq : fnd L f a L.length 0 = (p, n, false)) : p < L.length ∧ ((¬ Full L p ∧ ∃ j, j < L.length ∧ n = j + 1 ∧ p = (a + j) % L.length ∧ ∀ u, u < j → Full L ((a + u) % L.length)) ∨ (n = L.length ∧ ∀ u, u < L.length → Full L ((a + u) % L.length))) := by
  rcases fnd_spec L f a L.length 0 (by omega) (fun j hj => by omega) with ⟨j, h1, h2, ⟨h3, h4⟩ | ⟨h3, h4, h5⟩⟩ | ⟨h2, h1⟩
  · rw [h4] at hq; injection hq with hq hn; injection hn with hn _; subst hq hn
    exact ⟨Nat.mod_lt _ hpos, .inl ⟨h3, j, h1, rfl, rfl, fun u hu => (h2 u hu).1⟩⟩
  · rw [h5] at hq; injection hq with _ hq; injection hq with _ hq; cases hq
  · rw [h1] at hq; injection hq with hq hn; injection hn with hn _; subst hq hn
    exact ⟨Nat.mod_lt _ hpos, .inr ⟨rfl, fun u hu => (h2 u hu).1⟩⟩
theorem all_full {a : Nat} (hpos : 0 < L.length) (ha : a < L.length) (hall : ∀ u, u < L.length → Full L ((a + u) % L.length)) : ∀ p, p < L.length → Full L p := fun p hp => by
  have := hall _ (dist_lt (a := a) (p := p) hpos)
  rwa [dist_add ha hp] at this
theorem ents_full (hall : ∀ p, p < L.length → Full L p) : ents L = L := List.filter_eq_self.2 fun x hx => by
  obtain ⟨p, hp, rfl⟩ := List.mem_iff_getElem.1 hx
  have := hall p hp
  simpa [Full, at_, hp] using this

theorem set_perm {α : Type} : ∀ {L : List α} {p : Nat} {y z : α}, L[p]? = some y → (y :: L.set p z).Perm (z :: L)
  | [], _, _, _, h => by cases h
  | a :: r, 0, y, z, h => by
    obtain rfl : a = y := by simpa using h
    exact List.Perm.swap _ _ _
  | a :: r, p + 1, y, z, h => by
    have ih := set_perm (L := r) (p := p) (y := y) (z := z) (by simpa using h)
    rw [List.set_cons_succ]
    exact (List.Perm.swap _ _ _).trans ((ih.cons a).trans (List.Perm.swap _ _ _))
theorem ents_cons_full {x : Sl} (L : List Sl) (hx : x.full = true) : ents (x :: L) = x :: ents L := by unfold ents; rw [List.filter_cons_of_pos hx]
theorem ents_cons_empty {x : Sl} (L : List Sl) (hx : x.full = false) : ents (x :: L) = ents L := by unfold ents; rw [List.filter_cons_of_neg (by simp [hx])]

/-- One is put where nobody is. -/
theorem TOk.put (ok : TOk h L) {f : Fl} {v : Int} {p n : Nat} (hq : fnd L f (h f) L.length 0 = (p, n, false)) (hp : ¬ Full L p) : TOk h (L.set p ⟨f, v, true⟩) ∧ (ents (L.set p ⟨f, v, true⟩)).Perm (⟨f, v, true⟩ :: ents L) := by
  obtain ⟨hpl, hw⟩ := find_not ok.pos hq
  have hw : ∃ j, j < L.length ∧ n = j + 1 ∧ p = (h f + j) % L.length ∧ ∀ u, u < j → Full L ((h f + u) % L.length) := by
    rcases hw with ⟨_, hw⟩ | ⟨_, hw⟩
    · exact hw
    · exact absurd (all_full ok.pos (ok.home f) hw p hpl) hp
  obtain ⟨j, hj, _, hpj, hway⟩ := hw
  have hfull : ∀ q, Full L q → Full (L.set p ⟨f, v, true⟩) q := fun q hq => by
    unfold Full
    rw [at_set hpl]
    split
    · rfl
    · exact hq
  have hnew : ∀ q, q < L.length → Full L q → (at_ L q).f ≠ f := fun q hq hqf he => by
    obtain ⟨m, hm, _⟩ := ok.find_in hq hqf
    rw [he, ‹fnd L f (h f) L.length 0 = (p, n, false)›] at hm
    injection hm with _ hm; injection hm with _ hm; cases hm
  refine ⟨⟨by rw [List.length_set]; exact ok.pos, fun g => by rw [List.length_set]; exact ok.home g, fun q hql hqf i hi => ?_, fun q r hql hrl hqf hrf he => ?_⟩, ?_⟩
  · rw [List.length_set] at *
    rw [at_set hpl] at hi ⊢
    by_cases hpq : p = q
    · subst hpq
      rw [if_pos rfl] at hi ⊢
      rw [hpj, add_dist (ok.home f) hj] at hi
      exact hfull _ (hway i hi)
    · rw [if_neg hpq] at hi ⊢
      have hqf : Full L q := by unfold Full at hqf; rwa [at_set hpl, if_neg hpq] at hqf
      exact hfull _ (ok.way q hql hqf i hi)
  · rw [List.length_set] at hql hrl
    unfold Full at hqf hrf
    rw [at_set hpl] at hqf hrf he
    rw [at_set hpl] at he
    by_cases hpq : p = q <;> by_cases hpr : p = r
    · omega
    · rw [if_neg hpr] at hrf he
      rw [if_pos hpq] at he
      exact absurd he.symm (hnew r hrl hrf)
    · rw [if_neg hpq] at hqf he
      rw [if_pos hpr] at he
      exact absurd he (hnew q hql hqf)
    · rw [if_neg hpq] at hqf he
      rw [if_neg hpr] at hrf he
      exact ok.once q r hql hrl hqf hrf he
  · have := (set_perm (z := (⟨f, v, true⟩ : Sl)) (at_eq hpl)).filter (·.full)
    have h1 : (at_ L p).full = false := by simpa [Full] using hp
    have e1 := ents_cons_empty (L.set p ⟨f, v, true⟩) h1
    have e2 := ents_cons_full (x := ⟨f, v, true⟩) L rfl
    unfold ents at *
    rwa [e1, e2] at this
end
end Go.Proofs.Ytcbpdjikdohegaa.V
