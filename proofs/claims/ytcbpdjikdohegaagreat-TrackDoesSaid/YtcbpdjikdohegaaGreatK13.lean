/-
  The plain law of open addressing: which places are full hangs on the homes alone. No condition.
  A table of open addressing, by value: looking, putting, dropping. No condition.
  A table of open addressing, by value: one is dropped, the others move up. No condition.
-/
import Derived.Test.YtcbpdjikdohegaaGreatK1
namespace Go.Proofs.YtcbpdjikdohegaaGreat.V

def dist (N a p : Nat) : Nat := (p + N - a) % N
theorem dist_lt {N a p : Nat} (h : 0 < N) : dist N a p < N := Nat.mod_lt _ h
theorem mod_one {N x : Nat} (h : x < 2 * N) : (x < N ∧ x % N = x) ∨ (N ≤ x ∧ x % N = x - N) := by
  by_cases hx : x < N
  · exact .inl ⟨hx, Nat.mod_eq_of_lt hx⟩
  · refine .inr ⟨by omega, ?_⟩
    rw [Nat.mod_eq_sub_mod (by omega), Nat.mod_eq_of_lt (by omega)]
theorem dist_cases {N a p : Nat} (ha : a < N) (hp : p < N) : (a ≤ p ∧ dist N a p = p - a) ∨ (p < a ∧ dist N a p = p + N - a) := by
  unfold dist
  rcases mod_one (N := N) (x := p + N - a) (by omega) with ⟨h1, h2⟩ | ⟨h1, h2⟩ <;> rw [h2] <;> omega
theorem add_cases {N a i : Nat} (ha : a < N) (hi : i < N) : (a + i < N ∧ (a + i) % N = a + i) ∨ (N ≤ a + i ∧ (a + i) % N = a + i - N) := mod_one (by omega)
theorem dist_add {N a p : Nat} (ha : a < N) (hp : p < N) : (a + dist N a p) % N = p := by
  rcases dist_cases ha hp with ⟨h1, h2⟩ | ⟨h1, h2⟩ <;> rw [h2]
  · rw [show a + (p - a) = p by omega, Nat.mod_eq_of_lt hp]
  · rw [show a + (p + N - a) = p + N by omega, Nat.add_mod_right, Nat.mod_eq_of_lt hp]
theorem add_dist {N a i : Nat} (ha : a < N) (hi : i < N) : dist N a ((a + i) % N) = i := by
  rcases add_cases ha hi with ⟨h1, h2⟩ | ⟨h1, h2⟩ <;> rw [h2]
  · rcases dist_cases ha h1 with ⟨h3, h4⟩ | ⟨h3, h4⟩ <;> omega
  · rcases dist_cases (p := a + i - N) ha (by omega) with ⟨h3, h4⟩ | ⟨h3, h4⟩ <;> omega
end Go.Proofs.YtcbpdjikdohegaaGreat.V
namespace Go.Proofs.YtcbpdjikdohegaaGreat.V

structure Fl where
  src : Int
  dst : Int
  sp : Int
  dp : Int
  pr : Int
deriving DecidableEq
structure Sl where
  f : Fl
  v : Int
  full : Bool
deriving DecidableEq
def fl0 : Fl := ⟨0, 0, 0, 0, 0⟩
def sl0 : Sl := ⟨fl0, 0, false⟩

def fnd (L : List Sl) (f : Fl) (a : Nat) : Nat → Nat → Nat × Nat × Bool
  | 0, i => ((a + i) % L.length, L.length, false)
  | k + 1, i => match (L[(a + i) % L.length]?).getD sl0 with
    | x => match x.full with
      | false => ((a + i) % L.length, i + 1, false)
      | true => match decide (x.f = f) with
        | true => ((a + i) % L.length, i + 1, true)
        | false => fnd L f a k (i + 1)
abbrev at_ (L : List Sl) (p : Nat) : Sl := (L[p]?).getD sl0
abbrev Full (L : List Sl) (p : Nat) : Prop := (at_ L p).full = true
theorem fnd_spec (L : List Sl) (f : Fl) (a : Nat) : ∀ k i, i + k = L.length → (∀ j, j < i → Full L ((a + j) % L.length) ∧ (at_ L ((a + j) % L.length)).f ≠ f) →
    (∃ j, j < L.length ∧ (∀ u, u < j → Full L ((a + u) % L.length) ∧ (at_ L ((a + u) % L.length)).f ≠ f) ∧ ((¬ Full L ((a + j) % L.length) ∧ fnd L f a k i = ((a + j) % L.length, j + 1, false)) ∨ (Full L ((a + j) % L.length) ∧ (at_ L ((a + j) % L.length)).f = f ∧ fnd L f a k i = ((a + j) % L.length, j + 1, true)))) ∨
    ((∀ j, j < L.length → Full L ((a + j) % L.length) ∧ (at_ L ((a + j) % L.length)).f ≠ f) ∧ fnd L f a k i = ((a + L.length) % L.length, L.length, false))
  | 0, i, hi, hb => by
    obtain rfl : i = L.length := by omega
    exact .inr ⟨hb, rfl⟩
  | k + 1, i, hi, hb => by
    rw [fnd]
    cases h1 : (at_ L ((a + i) % L.length)).full with
    | false => exact .inl ⟨i, by omega, hb, .inl ⟨by simp [Full, h1], rfl⟩⟩
    | true =>
      simp only
      by_cases h2 : (at_ L ((a + i) % L.length)).f = f
      · refine .inl ⟨i, by omega, hb, .inr ⟨h1, h2, ?_⟩⟩
        rw [decide_eq_true h2]
      · rw [decide_eq_false h2]
        exact fnd_spec L f a k (i + 1) (by omega) fun j hj => by
          by_cases hji : j = i
          · subst hji; exact ⟨h1, h2⟩
          · exact hb j (by omega)

structure TOk (h : Fl → Nat) (L : List Sl) : Prop where
  pos : 0 < L.length
  home : ∀ f, h f < L.length
  way : ∀ p, p < L.length → Full L p → ∀ i, i < dist L.length (h (at_ L p).f) p → Full L ((h (at_ L p).f + i) % L.length)
  once : ∀ p q, p < L.length → q < L.length → Full L p → Full L q → (at_ L p).f = (at_ L q).f → p = q
def ents (L : List Sl) : List Sl := L.filter (·.full)
theorem at_eq {L : List Sl} {p : Nat} (h : p < L.length) : L[p]? = some (at_ L p) := by
  rw [List.getElem?_eq_getElem h]; simp [at_, h]
theorem at_set {L : List Sl} {p q : Nat} {x : Sl} (h : p < L.length) : at_ (L.set p x) q = if p = q then x else at_ L q := by
  unfold at_
  rw [List.getElem?_set]
  by_cases hp : p = q
  · rw [if_pos hp, if_pos hp, if_pos h]; rfl
  · rw [if_neg hp, if_neg hp]
theorem mem_ents {L : List Sl} {x : Sl} : x ∈ ents L ↔ ∃ p, p < L.length ∧ Full L p ∧ at_ L p = x := by
  unfold ents
  constructor
  · intro h
    obtain ⟨h1, h2⟩ := List.mem_filter.1 h
    obtain ⟨p, hp, rfl⟩ := List.mem_iff_getElem.1 h1
    have : at_ L p = L[p] := by simp [at_, hp]
    exact ⟨p, hp, by rw [Full, this]; exact h2, this⟩
  · rintro ⟨p, hp, h1, rfl⟩
    exact List.mem_filter.2 ⟨List.mem_of_getElem? (at_eq hp), h1⟩

section
variable {h : Fl → Nat} {L : List Sl}
theorem TOk.find_in (ok : TOk h L) {p : Nat} (hp : p < L.length) (hf : Full L p) : ∃ n, fnd L (at_ L p).f (h (at_ L p).f) L.length 0 = (p, n, true) ∧ 1 ≤ n ∧ n ≤ L.length ∧ ∀ u, u < n → Full L ((h (at_ L p).f + u) % L.length) := by
  have hd := dist_lt (a := h (at_ L p).f) (p := p) ok.pos
  have ha := ok.home (at_ L p).f
  have hpd : (h (at_ L p).f + dist L.length (h (at_ L p).f) p) % L.length = p := dist_add ha hp
  rcases fnd_spec L (at_ L p).f (h (at_ L p).f) L.length 0 (by omega) (fun j hj => by omega) with ⟨j, h1, h2, h3⟩ | ⟨h1, _⟩
  · have hje : j = dist L.length (h (at_ L p).f) p := by
      rcases Nat.lt_trichotomy j (dist L.length (h (at_ L p).f) p) with hlt | heq | hgt
      · rcases h3 with ⟨h3, _⟩ | ⟨h3, h4, _⟩
        · exact absurd (ok.way p hp hf j hlt) h3
        · have := ok.once _ p (Nat.mod_lt _ ok.pos) hp h3 hf h4
          have h5 := add_dist (i := j) ha h1
          rw [this] at h5
          exact h5.symm
      · exact heq
      · have := (h2 _ hgt).2
        rw [hpd] at this
        exact absurd rfl this
    rw [← hje] at hpd
    rcases h3 with ⟨h3, _⟩ | ⟨_, _, h4⟩
    · rw [hpd] at h3; exact absurd hf h3
    · rw [hpd] at h4
      refine ⟨j + 1, h4, by omega, by omega, fun u hu => ?_⟩
      by_cases huj : u = j
      · rw [huj, hpd]; exact hf
      · exact (h2 u (by omega)).1
  · have := (h1 _ hd).2
    rw [hpd] at this
    exact absurd rfl this
theorem find_is {f : Fl} {a p n : Nat} (hpos : 0 < L.length) (hq : fnd L f a L.length 0 = (p, n, true)) : p < L.length ∧ Full L p ∧ (at_ L p).f = f := by
  rcases fnd_spec L f a L.length 0 (by omega) (fun j hj => by omega) with ⟨j, h1, h2, ⟨_, h4⟩ | ⟨h3, h4, h5⟩⟩ | ⟨_, h1⟩
  · rw [h4] at hq; injection hq with _ hq; injection hq with _ hq; cases hq
  · rw [h5] at hq; injection hq with hq _; subst hq
    exact ⟨Nat.mod_lt _ hpos, h3, h4⟩
  · rw [h1] at hq; injection hq with _ hq; injection hq with _ hq; cases hq
theorem find_not {f : Fl} {a p n : Nat} (hpos : 0 < L.length) (hq : fnd L f a L.length 0 = (p, n, false)) : p < L.length ∧ ((¬ Full L p ∧ ∃ j, j < L.length ∧ n = j + 1 ∧ p = (a + j) % L.length ∧ ∀ u, u < j → Full L ((a + u) % L.length)) ∨ (n = L.length ∧ ∀ u, u < L.length → Full L ((a + u) % L.length))) := by
  rcases fnd_spec L f a L.length 0 (by omega) (fun j hj => by omega) with ⟨j, h1, h2, ⟨h3, h4⟩ | ⟨h3, h4, h5⟩⟩ | ⟨h2, h1⟩
  · rw [h4] at hq; injection hq with hq hn; injection hn with hn _; subst hq hn
    exact ⟨Nat.mod_lt _ hpos, .inl ⟨h3, j, h1, rfl, rfl, fun u hu => (h2 u hu).1⟩⟩
  · rw [h5] at hq; injection hq with _ hq; injection hq with _ hq; cases hq
  · rw [h1] at hq; injection hq with hq hn; injection hn with hn _; subst hq hn
    exact ⟨Nat.mod_lt _ hpos, .inr ⟨rfl, fun u hu => (h2 u hu).1⟩⟩
theorem all_full {a : Nat} (hpos : 0 < L.length) (ha : a < L.length) (hall : ∀ u, u < L.length → Full L ((a + u) % L.length)) : ∀ p, p < L.length → Full L p := fun p hp => by
  have := hall _ (dist_lt (a := a) (p := p) hpos)
  rwa [dist_add ha hp] at this
theorem ents_full (hall : ∀ p, p < L.length → Full L p) : ents L = L := List.filter_eq_self.2 fun x hx => by
  obtain ⟨p, hp, rfl⟩ := List.mem_iff_getElem.1 hx
  have := hall p hp
  simpa [Full, at_, hp] using this

theorem set_perm {α : Type} : ∀ {L : List α} {p : Nat} {y z : α}, L[p]? = some y → (y :: L.set p z).Perm (z :: L)
  | [], _, _, _, h => by cases h
  | a :: r, 0, y, z, h => by
    obtain rfl : a = y := by simpa using h
    exact List.Perm.swap _ _ _
  | a :: r, p + 1, y, z, h => by
    have ih := set_perm (L := r) (p := p) (y := y) (z := z) (by simpa using h)
    rw [List.set_cons_succ]
    exact (List.Perm.swap _ _ _).trans ((ih.cons a).trans (List.Perm.swap _ _ _))
theorem ents_cons_full {x : Sl} (L : List Sl) (hx : x.full = true) : ents (x :: L) = x :: ents L := by unfold ents; rw [List.filter_cons_of_pos hx]
theorem ents_cons_empty {x : Sl} (L : List Sl) (hx : x.full = false) : ents (x :: L) = ents L := by unfold ents; rw [List.filter_cons_of_neg (by simp [hx])]

theorem TOk.put (ok : TOk h L) {f : Fl} {v : Int} {p n : Nat} (hq : fnd L f (h f) L.length 0 = (p, n, false)) (hp : ¬ Full L p) : TOk h (L.set p ⟨f, v, true⟩) ∧ (ents (L.set p ⟨f, v, true⟩)).Perm (⟨f, v, true⟩ :: ents L) := by
  obtain ⟨hpl, hw⟩ := find_not ok.pos hq
  have hw : ∃ j, j < L.length ∧ n = j + 1 ∧ p = (h f + j) % L.length ∧ ∀ u, u < j → Full L ((h f + u) % L.length) := by
    rcases hw with ⟨_, hw⟩ | ⟨_, hw⟩
    · exact hw
    · exact absurd (all_full ok.pos (ok.home f) hw p hpl) hp
  obtain ⟨j, hj, _, hpj, hway⟩ := hw
  have hfull : ∀ q, Full L q → Full (L.set p ⟨f, v, true⟩) q := fun q hq => by
    unfold Full
    rw [at_set hpl]
    split
    · rfl
    · exact hq
  have hnew : ∀ q, q < L.length → Full L q → (at_ L q).f ≠ f := fun q hq hqf he => by
    obtain ⟨m, hm, _⟩ := ok.find_in hq hqf
    rw [he, ‹fnd L f (h f) L.length 0 = (p, n, false)›] at hm
    injection hm with _ hm; injection hm with _ hm; cases hm
  refine ⟨⟨by rw [List.length_set]; exact ok.pos, fun g => by rw [List.length_set]; exact ok.home g, fun q hql hqf i hi => ?_, fun q r hql hrl hqf hrf he => ?_⟩, ?_⟩
  · rw [List.length_set] at *
    rw [at_set hpl] at hi ⊢
    by_cases hpq : p = q
    · subst hpq
      rw [if_pos rfl] at hi ⊢
      rw [hpj, add_dist (ok.home f) hj] at hi
      exact hfull _ (hway i hi)
    · rw [if_neg hpq] at hi ⊢
      have hqf : Full L q := by unfold Full at hqf; rwa [at_set hpl, if_neg hpq] at hqf
      exact hfull _ (ok.way q hql hqf i hi)
  · rw [List.length_set] at hql hrl
    unfold Full at hqf hrf
    rw [at_set hpl] at hqf hrf he
    rw [at_set hpl] at he
    by_cases hpq : p = q <;> by_cases hpr : p = r
    · omega
    · rw [if_neg hpr] at hrf he
      rw [if_pos hpq] at he
      exact absurd he.symm (hnew r hrl hrf)
    · rw [if_neg hpq] at hqf he
      rw [if_pos hpr] at he
      exact absurd he (hnew q hql hqf)
    · rw [if_neg hpq] at hqf he
      rw [if_neg hpr] at hrf he
      exact ok.once q r hql hrl hqf hrf he
  · have := (set_perm (z := (⟨f, v, true⟩ : Sl)) (at_eq hpl)).filter (·.full)
    have h1 : (at_ L p).full = false := by simpa [Full] using hp
    have e1 := ents_cons_empty (L.set p ⟨f, v, true⟩) h1
    have e2 := ents_cons_full (x := ⟨f, v, true⟩) L rfl
    unfold ents at *
    rwa [e1, e2] at this
end
end Go.Proofs.YtcbpdjikdohegaaGreat.V
namespace Go.Proofs.YtcbpdjikdohegaaGreat.V

theorem dist_sub {N a p i : Nat} (ha : a < N) (hp : p < N) (hi : i ≤ dist N a p) : dist N ((a + i) % N) p = dist N a p - i := by
  have hd := dist_lt (a := a) (p := p) (show 0 < N by omega)
  have e : ((a + i) % N + (dist N a p - i)) % N = p := by
    rw [Nat.mod_add_mod, show a + i + (dist N a p - i) = a + dist N a p by omega]
    exact dist_add ha hp
  have := add_dist (N := N) (a := (a + i) % N) (i := dist N a p - i) (Nat.mod_lt _ (by omega)) (by omega)
  rwa [e] at this
theorem dist_zero {N a p : Nat} (ha : a < N) (hp : p < N) : dist N a p = 0 ↔ p = a := by
  rcases dist_cases ha hp with ⟨h1, h2⟩ | ⟨h1, h2⟩ <;> omega
theorem dist_next {N a p : Nat} (ha : a < N) (hp : p < N) (hd : dist N a p ≠ N - 1) : dist N a ((p + 1) % N) = dist N a p + 1 := by
  have hl := dist_lt (a := a) (p := p) (show 0 < N by omega)
  have e : (a + (dist N a p + 1)) % N = (p + 1) % N := by
    rw [← Nat.add_assoc, ← Nat.mod_add_mod (a + dist N a p), dist_add ha hp]
  rw [← e]
  exact add_dist ha (by omega)
theorem dist_one {N a : Nat} (ha : a < N) (h2 : 2 ≤ N) : dist N a ((a + 1) % N) = 1 := add_dist ha (by omega)

structure DropI (h : Fl → Nat) (L0 : List Sl) (p0 : Nat) (L : List Sl) (hole p : Nat) : Prop where
  len : L.length = L0.length
  hl : hole < L.length
  pl : p < L.length
  hf : Full L hole
  home : ∀ f, h f < L.length
  way : ∀ q, q < L.length → q ≠ hole → Full L q → ∀ i, i < dist L.length (h (at_ L q).f) q → Full L ((h (at_ L q).f + i) % L.length)
  once : ∀ q r, q < L.length → r < L.length → q ≠ hole → r ≠ hole → Full L q → Full L r → (at_ L q).f = (at_ L r).f → q = r
  scan : ∀ i, 1 ≤ i → i < dist L.length hole p → dist L.length (h (at_ L ((hole + i) % L.length)).f) ((hole + i) % L.length) < i
  nz : 2 ≤ L.length → p ≠ hole
  perm : (ents (L.set hole sl0)).Perm (ents (L0.set p0 sl0))

def sumAt (g : Sl → Nat → Nat) : List Sl → Nat → Nat
  | [], _ => 0
  | x :: r, k => g x k + sumAt g r (k + 1)
theorem sumAt_set (g : Sl → Nat → Nat) : ∀ {L : List Sl} {p k : Nat} {y z : Sl}, L[p]? = some y → sumAt g (L.set p z) k + g y (k + p) = sumAt g L k + g z (k + p)
  | [], _, _, _, _, h => by cases h
  | a :: r, 0, k, y, z, h => by
    obtain rfl : a = y := by simpa using h
    show g z k + sumAt g r (k + 1) + g a (k + 0) = g a k + sumAt g r (k + 1) + g z (k + 0)
    simp only [Nat.add_zero]; omega
  | a :: r, p + 1, k, y, z, h => by
    have := sumAt_set g (L := r) (p := p) (k := k + 1) (y := y) (z := z) (by simpa using h)
    rw [List.set_cons_succ]
    show g a k + sumAt g (r.set p z) (k + 1) + g y (k + (p + 1)) = g a k + sumAt g r (k + 1) + g z (k + (p + 1))
    rw [show k + (p + 1) = k + 1 + p by omega]; omega
def farS (h : Fl → Nat) (N : Nat) (L : List Sl) : Nat := sumAt (fun x p => match x.full with
  | true => dist N (h x.f) p
  | false => 0) L 0
def dropMu (h : Fl → Nat) (L : List Sl) (hole p : Nat) : Nat := farS h L.length (L.set hole sl0) * L.length + (L.length - dist L.length hole p)

section
variable {h : Fl → Nat} {L0 L : List Sl} {p0 hole p : Nat}
theorem TOk.dropI (ok : TOk h L) (hp : p0 < L.length) (hf : Full L p0) : DropI h L p0 L p0 ((p0 + 1) % L.length) := by
  refine ⟨rfl, hp, Nat.mod_lt _ ok.pos, hf, ok.home, fun q h1 _ h2 => ok.way q h1 h2, fun q r h1 h2 _ _ => ok.once q r h1 h2, fun i h1 h2 => ?_, fun h2 he => ?_, .refl _⟩
  · by_cases h3 : 2 ≤ L.length
    · rw [dist_one hp h3] at h2; omega
    · have := dist_lt (N := L.length) (a := p0) (p := (p0 + 1) % L.length) ok.pos; omega
  · have := dist_one hp h2
    rw [he, (dist_zero hp hp).2 rfl] at this; cases this
theorem DropI.move (d : DropI h L0 p0 L hole p) (hp : Full L p) (hne : p ≠ hole) (hfar : dist L.length hole p ≤ dist L.length (h (at_ L p).f) p) :
    DropI h L0 p0 (L.set hole (at_ L p)) p ((p + 1) % L.length) ∧ dropMu h (L.set hole (at_ L p)) p ((p + 1) % L.length) < dropMu h L hole p := by
  have hpos : 0 < L.length := Nat.lt_of_le_of_lt (Nat.zero_le _) d.pl
  have hd0 : dist L.length hole p ≠ 0 := fun h0 => hne ((dist_zero d.hl d.pl).1 h0)
  have h2 : 2 ≤ L.length := by have := d.hl; have := d.pl; omega
  have hx := d.home (at_ L p).f
  have hdist : dist L.length (h (at_ L p).f) hole = dist L.length (h (at_ L p).f) p - dist L.length hole p := by
    have e1 := dist_cases hx d.hl
    have e2 := dist_cases hx d.pl
    have e3 := dist_cases d.hl d.pl
    have e4 := d.hl
    have e5 := d.pl
    generalize dist L.length (h (at_ L p).f) hole = A at *
    generalize dist L.length (h (at_ L p).f) p = B at *
    generalize dist L.length hole p = C at *
    omega
  have hfull : ∀ q, Full L q ↔ Full (L.set hole (at_ L p)) q := fun q => by
    unfold Full
    rw [at_set d.hl]
    by_cases hq : hole = q
    · rw [if_pos hq, ← hq]; exact ⟨fun _ => hp, fun _ => d.hf⟩
    · rw [if_neg hq]
  have hperm : (ents ((L.set hole (at_ L p)).set p sl0)).Perm (ents (L.set hole sl0)) := by
    have e1 : (L.set hole (at_ L p))[p]? = some (at_ L p) := by rw [List.getElem?_set, if_neg (Ne.symm hne)]; exact at_eq d.pl
    have m1 := set_perm (z := at_ L p) (at_eq d.hl)
    have m2 := set_perm (z := sl0) e1
    have m3 := set_perm (z := sl0) (at_eq d.hl)
    have m4 : (at_ L hole :: at_ L p :: (L.set hole (at_ L p)).set p sl0).Perm (at_ L hole :: at_ L p :: L.set hole sl0) := by
      refine (m2.cons _).trans ((List.Perm.swap _ _ _).trans ((m1.cons _).trans ((List.Perm.swap _ _ _).trans ?_)))
      exact ((m3.symm.cons _).trans (List.Perm.swap _ _ _))
    exact (((List.perm_cons _).1 ((List.perm_cons _).1 m4))).filter _
  refine ⟨⟨by rw [List.length_set]; exact d.len, by rw [List.length_set]; exact d.pl, by rw [List.length_set]; exact Nat.mod_lt _ hpos, (hfull p).1 hp, fun f => by rw [List.length_set]; exact d.home f, fun q hq hqp hqf i hi => ?_, fun q r hq hr hqp hrp hqf hrf he => ?_, fun i h1 h3 => ?_, fun _ he => ?_, hperm.trans d.perm⟩, ?_⟩
  · rw [List.length_set] at *
    rw [at_set d.hl] at hi ⊢
    by_cases hqh : hole = q
    · subst hqh
      rw [if_pos rfl] at hi ⊢
      exact (hfull _).1 (d.way p d.pl hne hp i (by omega))
    · rw [if_neg hqh] at hi ⊢
      exact (hfull _).1 (d.way q hq (Ne.symm hqh) ((hfull q).2 hqf) i hi)
  · rw [List.length_set] at hq hr
    rw [at_set d.hl, at_set d.hl] at he
    have hqf := (hfull q).2 hqf
    have hrf := (hfull r).2 hrf
    by_cases hqh : hole = q <;> by_cases hrh : hole = r
    · omega
    · rw [if_pos hqh, if_neg hrh] at he
      exact absurd (d.once p r d.pl hr hne (Ne.symm hrh) hp hrf he).symm hrp
    · rw [if_neg hqh, if_pos hrh] at he
      exact absurd (d.once q p hq d.pl (Ne.symm hqh) hne hqf hp he) hqp
    · rw [if_neg hqh, if_neg hrh] at he
      exact d.once q r hq hr (Ne.symm hqh) (Ne.symm hrh) hqf hrf he
  · rw [List.length_set, dist_one d.pl h2] at h3; omega
  · have := dist_one d.pl h2
    rw [he, (dist_zero d.pl d.pl).2 rfl] at this; cases this
  · unfold dropMu farS
    simp only [List.length_set]
    rw [dist_one d.pl h2]
    generalize hg : (fun (x : Sl) (q : Nat) => match x.full with
      | true => dist L.length (h x.f) q
      | false => 0) = g
    have g0 : ∀ q, g sl0 q = 0 := fun q => by rw [← hg]; rfl
    have gp : ∀ q, g (at_ L p) q = dist L.length (h (at_ L p).f) q := fun q => by rw [← hg]; simp only; rw [show (at_ L p).full = true from hp]
    have e1 : (L.set hole (at_ L p))[p]? = some (at_ L p) := by rw [List.getElem?_set, if_neg (Ne.symm hne)]; exact at_eq d.pl
    have m1 := sumAt_set g (k := 0) (z := at_ L p) (at_eq d.hl)
    have m2 := sumAt_set g (k := 0) (z := sl0) e1
    have m3 := sumAt_set g (k := 0) (z := sl0) (at_eq d.hl)
    rw [Nat.zero_add, g0] at m2 m3
    rw [Nat.zero_add] at m1
    rw [gp] at m1 m2
    have hlt : sumAt g ((L.set hole (at_ L p)).set p sl0) 0 + 1 ≤ sumAt g (L.set hole sl0) 0 := by omega
    have := Nat.mul_le_mul_right L.length hlt
    rw [Nat.succ_mul] at this
    omega
theorem DropI.stay (d : DropI h L0 p0 L hole p) (hfar : dist L.length (h (at_ L p).f) p < dist L.length hole p) (hend : dist L.length hole p ≠ L.length - 1) :
    DropI h L0 p0 L hole ((p + 1) % L.length) ∧ dropMu h L hole ((p + 1) % L.length) < dropMu h L hole p := by
  have hpos : 0 < L.length := Nat.lt_of_le_of_lt (Nat.zero_le _) d.pl
  have hn := dist_next d.hl d.pl hend
  have hlt := dist_lt (N := L.length) (a := hole) (p := p) hpos
  refine ⟨⟨d.len, d.hl, Nat.mod_lt _ hpos, d.hf, d.home, d.way, d.once, fun i h1 h2 => ?_, fun _ he => ?_, d.perm⟩, ?_⟩
  · rw [hn] at h2
    by_cases hi : i = dist L.length hole p
    · subst hi
      rw [dist_add d.hl d.pl]; exact hfar
    · exact d.scan i h1 (by omega)
  · rw [he, (dist_zero d.hl d.hl).2 rfl] at hn; omega
  · unfold dropMu
    rw [hn]; omega
theorem DropI.done_m (d : DropI h L0 p0 L hole p) (m : Nat) (hscan : ∀ i, 1 ≤ i → i < m → i < L.length → dist L.length (h (at_ L ((hole + i) % L.length)).f) ((hole + i) % L.length) < i) (hm : L.length ≤ m ∨ ¬ Full L ((hole + m) % L.length)) : TOk h (L.set hole sl0) := by
  have hpos : 0 < L.length := Nat.lt_of_le_of_lt (Nat.zero_le _) d.pl
  have hfull : ∀ q, Full (L.set hole sl0) q ↔ q ≠ hole ∧ Full L q := fun q => by
    unfold Full
    rw [at_set d.hl]
    by_cases hq : hole = q
    · rw [if_pos hq]; exact ⟨(fun h => by cases h), fun h => absurd hq.symm h.1⟩
    · rw [if_neg hq]; exact ⟨fun h => ⟨Ne.symm hq, h⟩, fun h => h.2⟩
  have hat : ∀ q, q ≠ hole → at_ (L.set hole sl0) q = at_ L q := fun q hq => by rw [at_set d.hl, if_neg (Ne.symm hq)]
  refine ⟨by rw [List.length_set]; exact hpos, fun f => by rw [List.length_set]; exact d.home f, fun q hq hqf i hi => ?_, fun q r hq hr hqf hrf he => ?_⟩
  · rw [List.length_set] at *
    obtain ⟨hqh, hqf⟩ := (hfull q).1 hqf
    rw [hat q hqh] at hi ⊢
    refine (hfull _).2 ⟨fun he => ?_, d.way q hq hqh hqf i hi⟩
    have hx := d.home (at_ L q).f
    have hk := dist_sub hx hq (Nat.le_of_lt hi)
    rw [he] at hk
    have hql := dist_lt (N := L.length) (a := hole) (p := q) hpos
    have hqe := dist_add d.hl hq
    by_cases hkm : dist L.length hole q < m
    · have h1 : 1 ≤ dist L.length hole q := Nat.pos_of_ne_zero fun h0 => hqh ((dist_zero d.hl hq).1 h0)
      have := hscan _ h1 hkm hql
      rw [hqe] at this
      omega
    · rcases hm with hm | hm
      · omega
      · by_cases hkm2 : dist L.length hole q = m
        · rw [← hkm2, hqe] at hm; exact hm hqf
        · have := d.way q hq hqh hqf (i + m) (by omega)
          rw [← Nat.add_assoc, ← Nat.mod_add_mod, he] at this
          exact hm this
  · rw [List.length_set] at hq hr
    obtain ⟨h1, h2⟩ := (hfull q).1 hqf
    obtain ⟨h3, h4⟩ := (hfull r).1 hrf
    rw [hat q h1, hat r h3] at he
    exact d.once q r hq hr h1 h3 h2 h4 he
theorem DropI.done_empty (d : DropI h L0 p0 L hole p) (hp : ¬ Full L p) : TOk h (L.set hole sl0) :=
  d.done_m (dist L.length hole p) (fun i h1 h2 _ => d.scan i h1 h2) (.inr (by rw [dist_add d.hl d.pl]; exact hp))
theorem DropI.done_self (d : DropI h L0 p0 L hole p) (hp : p = hole) : TOk h (L.set hole sl0) := by
  have h1 : ¬ 2 ≤ L.length := fun h2 => d.nz h2 hp
  exact d.done_m 1 (fun i _ _ _ => by omega) (.inl (by omega))
theorem DropI.done_all (d : DropI h L0 p0 L hole p) (hfar : dist L.length (h (at_ L p).f) p < dist L.length hole p) (hend : dist L.length hole p = L.length - 1) : TOk h (L.set hole sl0) := by
  refine d.done_m L.length (fun i h1 _ h2 => ?_) (.inl (Nat.le_refl _))
  by_cases hi : i = dist L.length hole p
  · subst hi; rw [dist_add d.hl d.pl]; exact hfar
  · exact d.scan i h1 (by omega)
theorem ents_drop (hp : p0 < L.length) (hf : Full L p0) : (ents L).Perm (at_ L p0 :: ents (L.set p0 sl0)) := by
  have := (set_perm (z := sl0) (at_eq hp)).filter (·.full)
  have e1 := ents_cons_full (L.set p0 sl0) hf
  have e2 := ents_cons_empty (x := sl0) L rfl
  unfold ents at *
  rw [e1, e2] at this
  exact this.symm
end
end Go.Proofs.YtcbpdjikdohegaaGreat.V
