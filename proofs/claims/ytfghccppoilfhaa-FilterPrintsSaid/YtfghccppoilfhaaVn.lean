/-
  append, to a row of one's own, or to none. Condition: the table of types says what the program's says.
-/
import Derived.Test.YtfghccppoilfhaaVi
import Derived.Maps.AppendAt
import Derived.Deep.Upon
import Derived.Deep.AppendSrc
import Derived.IntWalk
namespace Go.Proofs.Ytfghccppoilfhaa.V
open Go.RowKit

section
variable {P : Program} {tt : TT} {E : Env} {s : St} {σ : Nat → Nat} {τ : Nat → Value} {a : Act} {w : World}

theorem src_spec (hs : SR E s σ τ a w) {e : Nat} {x : D} {u : Value} {LL : List (List D)} (he : 0 < e) (h : srcRows s e x = some LL) (hl : litStill x = true) (hx : Rep (ctxOf E s.H s.nx σ τ w) x u) :
    ∃ p c news, u = .slice p LL.length c ∧ news.length = LL.length * e ∧ (∀ (i : Nat) l, LL[i]? = some l → l.length = e) ∧
      (∀ (i : Nat) (l : List D) (j : Nat) d v, LL[i]? = some l → l[j]? = some d → news[i * e + j]? = some v → Rep (ctxOf E s.H s.nx σ τ w).still d v) ∧
      (LL = [] ∨ ∃ b o, p = some ⟨b, o, none⟩ ∧ cellsAt w b o news) := by
  -- rows that lie in memory, by their cells
  have base : ∀ (LL : List (List D)) (p : Option Addr) (c : Nat) (b o : Nat) (g : Nat → Nat → Value), (LL ≠ [] → p = some ⟨b, o, none⟩) → (∀ (i : Nat) l, LL[i]? = some l → l.length = e) →
      (∀ (i : Nat) (l : List D) (j : Nat) d, LL[i]? = some l → l[j]? = some d → w.cell? ⟨b, o + i * e + j, none⟩ = some (g i j)) → (∀ (i : Nat) (l : List D) (j : Nat) d, LL[i]? = some l → l[j]? = some d → Rep (ctxOf E s.H s.nx σ τ w).still d (g i j)) →
      ∃ p' c' news, Value.slice p LL.length c = .slice p' LL.length c' ∧ news.length = LL.length * e ∧ (∀ (i : Nat) l, LL[i]? = some l → l.length = e) ∧
      (∀ (i : Nat) (l : List D) (j : Nat) d v, LL[i]? = some l → l[j]? = some d → news[i * e + j]? = some v → Rep (ctxOf E s.H s.nx σ τ w).still d v) ∧
      (LL = [] ∨ ∃ b o, p' = some ⟨b, o, none⟩ ∧ cellsAt w b o news) := by
    intro LL p c b o g hp hlen hcell hrep
    refine ⟨p, c, (List.range (LL.length * e)).map fun k => g (k / e) (k % e), rfl, by simp, hlen, fun i l j d v hl hd hv => ?_, ?_⟩
    · have hj : j < e := by have := (List.getElem?_eq_some_iff.1 hd).1; rw [hlen i l hl] at this; exact this
      rw [List.getElem?_map] at hv
      cases hq : (List.range (LL.length * e))[i * e + j]? with
      | none => rw [hq] at hv; cases hv
      | some k =>
        rw [hq] at hv
        simp only [Option.map_some, Option.some.injEq] at hv
        obtain ⟨hk, rfl⟩ := List.getElem?_eq_some_iff.1 hq
        subst hv
        have h1 : (List.range (LL.length * e))[i * e + j] = i * e + j := by simp
        rw [h1]
        have h2 : (i * e + j) / e = i := by rw [Nat.mul_comm, Nat.mul_add_div he, Nat.div_eq_of_lt hj, Nat.add_zero]
        have h3 : (i * e + j) % e = j := by rw [Nat.mul_comm, Nat.mul_add_mod, Nat.mod_eq_of_lt hj]
        rw [h2, h3]
        exact hrep i l j d hl hd
    · by_cases hL : LL = []
      · exact .inl hL
      · refine .inr ⟨b, o, hp hL, fun k u hu => ?_⟩
        rw [List.getElem?_map] at hu
        cases hq : (List.range (LL.length * e))[k]? with
        | none => rw [hq] at hu; cases hu
        | some k' =>
          rw [hq] at hu
          simp only [Option.map_some, Option.some.injEq] at hu
          subst hu
          obtain ⟨hk, hkk⟩ := List.getElem?_eq_some_iff.1 hq
          have hk' : k' = k := by rw [← hkk]; simp
          subst hk'
          have hk2 : k' < LL.length * e := by simpa using hk
          have hi : k' / e < LL.length := Nat.div_lt_of_lt_mul (by rw [Nat.mul_comm]; exact hk2)
          have hj : k' % e < e := Nat.mod_lt _ he
          have hget : LL[k' / e]? = some LL[k' / e] := List.getElem?_eq_getElem hi
          have hl2 := hlen _ _ hget
          have hget2 : (LL[k' / e])[k' % e]? = some ((LL[k' / e])[k' % e]'(by omega)) := List.getElem?_eq_getElem _
          have := hcell _ _ _ _ hget hget2
          rw [Nat.add_assoc] at this
          have hdm : k' / e * e + k' % e = k' := Nat.div_add_mod' k' e
          rw [hdm] at this
          exact this
  unfold srcRows at h
  split at h
  · rename_i k LL'
    split at h
    · rename_i hk
      have hk := Nat.eq_of_beq_eq_true hk
      subst hk
      injection h with h; subst h
      cases hx with
      | lit b o g hc hp hlen hcell hrep =>
        simp only [litStill, List.all_eq_true] at hl
        exact base _ _ _ b o g (fun hn => (hp hn).1) hlen hcell fun i l j d h1 h2 => (cut_rep 6 d _ _ (hl l (List.mem_of_getElem? h1) d (List.mem_of_getElem? h2)) (hrep i l j d h1 h2)).mono
          ⟨fun _ _ _ h => h, fun _ h => h, fun _ _ _ h => absurd h.1 (Nat.not_lt_zero _), fun _ _ h => absurd h.1 (Nat.not_lt_zero _), fun _ _ _ h => absurd h.1 (Nat.not_lt_zero _)⟩
    · cases h
  · rename_i α k enc L
    split at h
    · rename_i hk
      have hk := Nat.eq_of_beq_eq_true hk
      subst hk
      injection h with h; subst h
      cases hx with
      | rows b o g hc hp hlen hcell hrep =>
        have hm : ∀ (i : Nat) l, (L.map enc)[i]? = some l → ∃ y, L[i]? = some y ∧ enc y = l := by
          intro i l hl
          rw [List.getElem?_map] at hl
          cases hq : L[i]? with
          | none => rw [hq] at hl; cases hl
          | some y => rw [hq] at hl; simp only [Option.map_some, Option.some.injEq] at hl; exact ⟨y, rfl, hl⟩
        rename_i p c
        have := base (L.map enc) p c b o g (fun hn => (hp (fun he => hn (by rw [he]; rfl))).1) (fun i l h1 => by obtain ⟨y, h2, rfl⟩ := hm i l h1; exact hlen i y h2)
          (fun i l j d h1 h2 => by obtain ⟨y, h3, rfl⟩ := hm i l h1; exact hcell i y j d h3 h2) (fun i l j d h1 h2 => by obtain ⟨y, h3, rfl⟩ := hm i l h1; exact hrep i y j d h3 h2)
        rw [List.length_map] at this ⊢
        exact this
    · cases h
  · rename_i id
    split at h
    · rename_i α el k enc L hl2
      split at h
      · rename_i hk
        have hk := Nat.eq_of_beq_eq_true hk
        subst hk
        injection h with h; subst h
        cases hx with
        | grow hg =>
          obtain ⟨_, rfl⟩ := hg
          obtain ⟨_, xs, hown, hlen, hrep⟩ := hs.heap.grow id _ _ _ _ _ hl2
          have hm : ∀ (i : Nat) l, (L.map enc)[i]? = some l → ∃ y, L[i]? = some y ∧ enc y = l := by
            intro i l hl
            rw [List.getElem?_map] at hl
            cases hq : L[i]? with
            | none => rw [hq] at hl; cases hl
            | some y => rw [hq] at hl; simp only [Option.map_some, Option.some.injEq] at hl; exact ⟨y, rfl, hl⟩
          have hlen' : ∀ (i : Nat) l, (L.map enc)[i]? = some l → l.length = k := fun i l h1 => by obtain ⟨y, h2, rfl⟩ := hm i l h1; exact hlen i y h2
          have hrep' : ∀ (i : Nat) (l : List D) (j : Nat) d v, (L.map enc)[i]? = some l → l[j]? = some d → xs[i * k + j]? = some v → Rep (ctxOf E s.H s.nx σ τ w).still d v := fun i l j d v h1 h2 h3 => by obtain ⟨y, h4, rfl⟩ := hm i l h1; exact hrep i y j d v h4 h2 h3
          rcases hown.2 with ⟨hv, hn⟩ | ⟨g, cap, cur, hv, _, hg, _⟩
          · have hL : L = [] := List.eq_nil_of_length_eq_zero hn
            subst hL
            exact ⟨none, 0, xs, by rw [hv]; rfl, by rw [hown.1]; simp, hlen', hrep', .inl rfl⟩
          · refine ⟨_, cap, xs, by rw [hv, List.length_map], by rw [hown.1, List.length_map], hlen', hrep', .inr ⟨g, 0, rfl, fun j u hu => ?_⟩⟩
            have := hown.cells (g := g) (by rw [hv]; rfl) j u hu
            rw [addr_add] at this
            exact this
      · cases h
    · cases h
  · rename_i id k lo n
    split at h
    · rename_i α el k' enc L hl2
      split at h
      · rename_i hk hk' hble
        have hk := Nat.eq_of_beq_eq_true hk
        have hk' := Nat.eq_of_beq_eq_true hk'
        have hble : lo + n ≤ L.length := Nat.le_of_ble_eq_true hble
        subst hk hk'
        injection h with h; subst h
        cases hx with
        | win hop hcc =>
          rename_i cc pp
          obtain ⟨_, xs, hown, hlen, hrep⟩ := hs.heap.grow id _ _ _ _ _ hl2
          have hLl : ((L.drop lo).take n).length = n := by simp; omega
          have hm : ∀ (i : Nat) l, (((L.drop lo).take n).map enc)[i]? = some l → i < n ∧ ∃ y, L[lo + i]? = some y ∧ enc y = l := by
            intro i l hl
            rw [List.getElem?_map] at hl
            cases hq : ((L.drop lo).take n)[i]? with
            | none => rw [hq] at hl; cases hl
            | some y =>
              rw [hq] at hl
              simp only [Option.map_some, Option.some.injEq] at hl
              have hi := (List.getElem?_eq_some_iff.1 hq).1
              rw [List.getElem?_take_of_lt (by omega), List.getElem?_drop] at hq
              exact ⟨by omega, y, hq, hl⟩
          have hlen' : ∀ (i : Nat) l, (((L.drop lo).take n).map enc)[i]? = some l → l.length = k' := fun i l h1 => by obtain ⟨_, y, h2, rfl⟩ := hm i l h1; exact hlen _ y h2
          by_cases hn0 : n = 0
          · subst hn0
            exact ⟨pp, cc, [], by simp, by simp, hlen', fun i l j d v h1 => by (simp at h1), .inl (by simp)⟩
          · rcases hown.2 with ⟨hv, hn⟩ | ⟨g, cap, cur, hv, _, hg, _⟩
            · omega
            · obtain ⟨_, hp⟩ := hop (by omega)
              injection hp with hp
              have hin : ∀ (i : Nat) (l : List D) (j : Nat) d, (((L.drop lo).take n).map enc)[i]? = some l → l[j]? = some d → j < k' ∧ ∃ v, xs[(lo + i) * k' + j]? = some v := by
                intro i l j d h1 h2
                obtain ⟨h3, y, h4, rfl⟩ := hm i l h1
                have hj : j < k' := by have := (List.getElem?_eq_some_iff.1 h2).1; rw [hlen _ y h4] at this; exact this
                have hb : (lo + i) * k' + k' ≤ L.length * k' := by
                  have := Nat.mul_le_mul_right k' (show lo + i + 1 ≤ L.length by omega)
                  rw [Nat.succ_mul] at this; exact this
                exact ⟨hj, _, List.getElem?_eq_getElem (by rw [hown.1]; omega)⟩
              have := base (((L.drop lo).take n).map enc) pp cc g (lo * k') (fun i j => (xs[(lo + i) * k' + j]?).getD undef) (fun _ => by rw [hp, hv]; rfl) hlen'
                (fun i l j d h1 h2 => by
                  obtain ⟨_, v, h3⟩ := hin i l j d h1 h2
                  rw [h3]
                  have := hown.cells (g := g) (by rw [hv]; rfl) _ _ h3
                  rw [addr_add, Nat.zero_add] at this
                  rw [show lo * k' + i * k' + j = (lo + i) * k' + j by rw [Nat.add_mul]]
                  exact this)
                (fun i l j d h1 h2 => by
                  obtain ⟨_, v, h3⟩ := hin i l j d h1 h2
                  obtain ⟨_, y, h4, rfl⟩ := hm i l h1
                  rw [h3]
                  exact hrep _ y j d v h4 h2 h3)
              rw [List.length_map, hLl] at this ⊢
              exact this
      · cases h
    · cases h
  · injection h with h; subst h
    cases hx with
    | emp => exact ⟨_, _, [], rfl, by simp, fun i l h => (by simp at h), fun i l j d v h => (by simp at h), .inl rfl⟩
  · injection h with h; subst h
    have := rep_v hx; subst this
    exact ⟨_, _, [], rfl, by simp, fun i l h => (by simp at h), fun i l j d v h => (by simp at h), .inl rfl⟩
  · cases h

theorem own_spec (hs : SR E s σ τ a w) {el e : Nat} {x : D} {u : Value} {LL : List (List D)} (h : ownRows s el e x = some LL) (hx : Rep (ctxOf E s.H s.nx σ τ w) x u) :
    ∃ xs, w.ownsRow 0 el e u LL.length xs ∧ (∀ (i : Nat) l, LL[i]? = some l → l.length = e) ∧ (∀ g, u.ownBlock = some g → E.mine g) ∧
      (∀ (i : Nat) (l : List D) (j : Nat) d v, LL[i]? = some l → l[j]? = some d → xs[i * e + j]? = some v → Rep (ctxOf E s.H s.nx σ τ w).still d v) ∧
      ((x = .v (.slice none 0 0) ∧ u = .slice none 0 0) ∨ ∃ id α enc L, x = .grow id ∧ lget s.H id = some (.grow α el e enc L) ∧ u = τ id) := by
  unfold ownRows at h
  split at h
  · rename_i id
    split at h
    · rename_i α el' k enc L hl
      split at h
      · rename_i hk hel
        have hk := Nat.eq_of_beq_eq_true hk
        have hel := Nat.eq_of_beq_eq_true hel
        subst hk hel
        injection h with h; subst h
        cases hx with
        | grow hg =>
          obtain ⟨_, rfl⟩ := hg
          obtain ⟨hm, xs, hown, hlen, hrep⟩ := hs.heap.grow id _ _ _ _ _ hl
          have hmap : ∀ (i : Nat) l, (L.map enc)[i]? = some l → ∃ y, L[i]? = some y ∧ enc y = l := by
            intro i l hl
            rw [List.getElem?_map] at hl
            cases hq : L[i]? with
            | none => rw [hq] at hl; cases hl
            | some y => rw [hq] at hl; simp only [Option.map_some, Option.some.injEq] at hl; exact ⟨y, rfl, hl⟩
          refine ⟨xs, by rw [List.length_map]; exact hown, fun i l h1 => ?_, hm, fun i l j d v h1 h2 h3 => ?_, .inr ⟨id, α, enc, L, rfl, hl, rfl⟩⟩
          · obtain ⟨y, h2, rfl⟩ := hmap i l h1; exact hlen i y h2
          · obtain ⟨y, h4, rfl⟩ := hmap i l h1; exact hrep i y j d v h4 h2 h3
      · cases h
    · cases h
  · injection h with h; subst h
    have := rep_v hx; subst this
    exact ⟨[], World.ownsRow_nil w 0 el e, fun i l h => (by simp at h), fun g h => (by cases h), fun i l j d v h => (by simp at h), .inl ⟨rfl, rfl⟩⟩
  · cases h

theorem owned_kill {H : List (Nat × LO)} {nx : Nat} {τ' : Nat → Value} {dst : D} {β : Type} {el e : Nat} {enc : β → List D} {L : List β} {v' : Value} (hτ : ∀ i, i ≠ nx → τ' i = τ i) (hτn : τ' nx = v') {j n : Nat}
    (h : owned ((nx, .grow β el e enc L) :: killD dst H) σ τ' j n) : (j = nx ∧ v'.ownBlock = some n) ∨ (j ≠ nx ∧ owned H σ τ j n ∧ dst ≠ .grow j) := by
  by_cases hj : j = nx
  · subst hj
    left
    rcases h with ⟨el', l', h1, _⟩ | ⟨α, el', e', enc', L', h1, h2⟩ | ⟨o, h1, _⟩
    rotate_left 2
    · rw [lget_same] at h1; cases h1
    · rw [lget_same] at h1; cases h1
    · exact ⟨rfl, by rw [← hτn]; exact h2⟩
  · right
    have key : ∀ o, lget ((nx, LO.grow β el e enc L) :: killD dst H) j = some o → o ≠ .dead → lget H j = some o ∧ dst ≠ .grow j := by
      intro o ho hd
      rw [lget_ne _ _ hj] at ho
      unfold killD at ho
      split at ho
      · rename_i id
        by_cases hji : j = id
        · subst hji
          rw [lget_same] at ho
          injection ho with ho
          exact absurd ho.symm hd
        · rw [lget_ne _ _ hji] at ho
          exact ⟨ho, fun he => by injection he with he; exact hji he.symm⟩
      · rename_i hne
        exact ⟨ho, fun he => hne j he⟩
    rcases h with ⟨el', l', h1, h2⟩ | ⟨α, el', e', enc', L', h1, h2⟩ | ⟨o, h1, h2⟩
    rotate_left 2
    · obtain ⟨h3, h4⟩ := key _ h1 (by simp)
      exact ⟨hj, .inr (.inr ⟨o, h3, h2⟩), h4⟩
    · obtain ⟨h3, h4⟩ := key _ h1 (by simp)
      exact ⟨hj, .inl ⟨el', l', h3, h2⟩, h4⟩
    · obtain ⟨h3, h4⟩ := key _ h1 (by simp)
      exact ⟨hj, .inr (.inl ⟨α, el', e', enc', L', h3, by rw [← hτ j hj]; exact h2⟩), h4⟩

theorem lget_kill {H : List (Nat × LO)} {dst : D} {j : Nat} {o : LO} (h : lget (killD dst H) j = some o) (hd : o ≠ .dead) : lget H j = some o ∧ dst ≠ .grow j := by
  unfold killD at h
  split at h
  · rename_i id
    by_cases hji : j = id
    · subst hji
      rw [lget_same] at h
      injection h with h
      exact absurd h.symm hd
    · rw [lget_ne _ _ hji] at h
      exact ⟨h, fun he => by injection he with he; exact hji he.symm⟩
  · rename_i hne
    exact ⟨h, fun he => hne j he⟩

theorem lget_kill_lt {H : List (Nat × LO)} {dst : D} {n : Nat} (hH : ∀ id o, lget H id = some o → id < n) (hd : ∀ id, dst = .grow id → id < n) {j : Nat} {o : LO} (h : lget (killD dst H) j = some o) : j < n := by
  unfold killD at h
  split at h
  · rename_i id
    by_cases hji : j = id
    · subst hji; exact hd _ rfl
    · rw [lget_ne _ _ hji] at h; exact hH _ _ h
  · exact hH _ _ h

theorem grow_state (hs : SR E s σ τ a w) {dst : D} {u : Value} {el e : Nat} {old : List (List D)} (ho : ownRows s el e dst = some old) (hd : Rep (ctxOf E s.H s.nx σ τ w) dst u) {w' : World} (hdr : w.drawn ≤ w'.drawn) (hg : w.grownBy w' u.ownBlock) {v' : Value}
    (hb : v'.ownBlock = none ∨ v'.ownBlock = u.ownBlock ∨ v'.ownBlock = some w.heap.size) (hsl : ∃ p l c, v' = .slice p l c) {β : Type} {enc : β → List D} {L : List β} {xs : List Value} (hown : w'.ownsRow 0 el e v' L.length xs)
    (hlen : ∀ (i : Nat) x, L[i]? = some x → (enc x).length = e) (hrep : ∀ (i : Nat) x (j : Nat) d u, L[i]? = some x → (enc x)[j]? = some d → xs[i * e + j]? = some u → Rep (ctxOf E s.H s.nx σ τ w).still d u) :
    ∃ τ', SR E ⟨s.F, (s.nx, .grow β el e enc L) :: killD dst s.H, s.nx + 1, s.G⟩ σ τ' a w' ∧ τ' s.nx = v' := by
  obtain ⟨xs0, hown0, _, hmine0, _, hcase⟩ := own_spec hs ho hd
  let τ' : Nat → Value := fun i => if i = s.nx then v' else τ i
  have hτ : ∀ i, i ≠ s.nx → τ' i = τ i := fun i hi => by simp [τ', hi]
  have hτn : τ' s.nx = v' := by simp [τ']
  -- whose the old row was
  have hdown : ∀ g, u.ownBlock = some g → ∃ id, dst = .grow id ∧ owned s.H σ τ id g := by
    intro g hg
    rcases hcase with ⟨_, rfl⟩ | ⟨id, α, enc0, L0, h1, h2, rfl⟩
    · cases hg
    · exact ⟨id, h1, .inr (.inl ⟨α, el, e, enc0, L0, h2, hg⟩)⟩
  have hsame : ∀ k, k < w.heap.size → (∀ id, owned s.H σ τ id k → dst ≠ .grow id) → w'.heap[k]? = w.heap[k]? := by
    intro k hk hno
    refine hg.block k hk (fun he => ?_)
    obtain ⟨id, h1, h2⟩ := hdown k he.symm
    exact hno id h2 h1
  have hle : (ctxOf E s.H s.nx σ τ w).Le (ctxOf E ((s.nx, .grow β el e enc L) :: killD dst s.H) (s.nx + 1) σ τ' w') := by
    refine ⟨fun b of hk hc => ?_, fun b hk => ⟨hk.1, Nat.lt_of_lt_of_le hk.2.1 hg.size, fun id hid => ?_⟩, fun id off v hv => ⟨Nat.lt_succ_of_lt hv.1, hv.2⟩, fun id v hv => ⟨Nat.lt_succ_of_lt hv.1, by rw [hτ id (by have := hv.1; omega)]; exact hv.2⟩,
      fun id off v hv => ⟨Nat.lt_succ_of_lt hv.1, by rw [hτ id (by have := hv.1; omega)]; exact hv.2⟩⟩
    · exact (hsame b hk.2.1 (fun id hid => absurd hid (hk.2.2 id))).trans hc
    · rcases owned_kill hτ hτn hid with ⟨_, hv⟩ | ⟨_, ho2, _⟩
      · rcases hb with hb | hb | hb
        · rw [hb] at hv; cases hv
        · rw [hb] at hv
          obtain ⟨id', _, h2⟩ := hdown b hv
          exact hk.2.2 id' h2
        · rw [hb] at hv
          injection hv with hv
          have := hk.2.1
          show False
          omega
      · exact hk.2.2 id ho2
  refine ⟨τ', ⟨⟨⟨hg.os.trans hs.heap.kept.os, hg.tape.trans hs.heap.kept.tape, hg.output.trans hs.heap.kept.output, Nat.le_trans hs.heap.kept.size hg.size, fun k hk hn => ?_, Nat.le_trans hs.heap.kept.drawn hdr⟩, hs.heap.few, fun id el' l h => ?_, fun id α el' e' enc' L' h => ?_, fun i j b h1 h2 => ?_, fun id o h => ?_, fun id => ?_, fun id o h => by
      have hne : id ≠ s.nx := by rintro rfl; rw [lget_same] at h; cases h
      rw [lget_ne _ _ hne] at h
      obtain ⟨h1, h2⟩ := lget_kill h (by simp)
      obtain ⟨g1, g2⟩ := hs.heap.obj id o h1
      refine ⟨fun k hk => ⟨(g1 k hk).1, Nat.lt_of_lt_of_le (g1 k hk).2 hg.size⟩, OA.at_mono g2 (fun k hk => hsame _ (g1 k hk).2 (fun id' ho' he => ?_)) hg.size hle.still⟩
      have := hs.heap.apart id id' _ (.inr (.inr ⟨_, h1, hk⟩)) ho'
      subst this; exact h2 he⟩,
    hs.defers, hs.size, fun i d h => (hs.slots i d h).mono hle, hs.ghost_le (s' := ⟨s.F, (s.nx, .grow β el e enc L) :: killD dst s.H, s.nx + 1, s.G⟩) rfl hle, Nat.le_succ_of_le hs.room⟩, hτn⟩
  · refine (hg.block k (Nat.lt_of_lt_of_le hk hs.heap.kept.size) (fun he => ?_)).trans (hs.heap.kept.block k hk hn)
    rcases hmine0 k he.symm with h | h
    · exact hn h
    · omega
  · have hne : id ≠ s.nx := by rintro rfl; rw [lget_same] at h; cases h
    rw [lget_ne _ _ hne] at h
    obtain ⟨h1, h2⟩ := lget_kill h (by simp)
    obtain ⟨g1, c, g2, g3, g4⟩ := hs.heap.cells id el' l h1
    refine ⟨g1, c, ?_, g3, fun j d u hd hu => (g4 j d u hd hu).mono hle⟩
    rw [hsame _ (Array.getElem?_eq_some_iff.1 g2).1 (fun id' ho' he => ?_)]
    · exact g2
    · have := hs.heap.apart id id' _ (.inl ⟨_, _, h1, rfl⟩) ho'
      subst this; exact h2 he
  · by_cases hid : id = s.nx
    · subst hid
      rw [lget_same] at h
      injection h with h; injection h with e1 e2 e3 e4 e5
      subst e1 e2 e3
      have e4 := eq_of_heq e4
      have e5 := eq_of_heq e5
      subst e4 e5
      refine ⟨fun g hg' => ?_, xs, by rw [hτn]; exact hown, hlen, fun i x j d u hx hd hu => (hrep i x j d u hx hd hu).mono hle.still⟩
      rw [hτn] at hg'
      rcases hb with hb | hb | hb
      · rw [hb] at hg'; cases hg'
      · rw [hb] at hg'; exact hmine0 g hg'
      · rw [hb] at hg'; injection hg' with hg'; subst hg'; exact .inr hs.heap.kept.size
    · rw [lget_ne _ _ hid] at h
      obtain ⟨h1, h2⟩ := lget_kill h (by simp)
      obtain ⟨g1, xs', g2, g3, g4⟩ := hs.heap.grow id α el' e' enc' L' h1
      refine ⟨by rw [hτ id hid]; exact g1, xs', ?_, g3, fun i x j d u hx hd hu => (g4 i x j d u hx hd hu).mono hle.still⟩
      rw [hτ id hid]
      refine ⟨g2.1, ?_⟩
      rcases g2.2 with h3 | ⟨g, cap, cur, hv, hbase, hgg, hr⟩
      · exact .inl h3
      · refine .inr ⟨g, cap, cur, hv, hbase, ?_, hr⟩
        rw [hsame _ (Array.getElem?_eq_some_iff.1 hgg).1 (fun id' ho' he => ?_)]
        · exact hgg
        · have := hs.heap.apart id id' _ (.inr (.inl ⟨_, _, _, _, _, h1, by rw [hv]; rfl⟩)) ho'
          subst this; exact h2 he
  · have old_new : ∀ {i j : Nat}, owned s.H σ τ i b → dst ≠ .grow i → v'.ownBlock = some b → False := by
      intro i j ho1 hne hv
      rcases hb with hb | hb | hb
      · rw [hb] at hv; cases hv
      · rw [hb] at hv
        obtain ⟨id', h3, h4⟩ := hdown b hv
        have := hs.heap.apart i id' b ho1 h4
        subst this; exact hne h3
      · rw [hb] at hv
        injection hv with hv
        have := owned_lt hs.heap ho1
        omega
    rcases owned_kill hτ hτn h1 with ⟨rfl, hv1⟩ | ⟨_, ho1, hn1⟩ <;> rcases owned_kill hτ hτn h2 with ⟨e2, hv2⟩ | ⟨_, ho2, hn2⟩
    · exact e2.symm
    · exact (old_new (j := 0) ho2 hn2 hv1).elim
    · exact (old_new (j := 0) ho1 hn1 hv2).elim
    · exact hs.heap.apart i j b ho1 ho2
  · by_cases hid : id = s.nx
    · subst hid; exact Nat.lt_succ_self _
    · rw [lget_ne _ _ hid] at h
      refine Nat.lt_succ_of_lt (lget_kill_lt hs.heap.below (fun i hi => ?_) h)
      rcases hcase with ⟨h1, _⟩ | ⟨id', α, enc0, L0, h1, h2, _⟩
      · rw [h1] at hi; cases hi
      · rw [h1] at hi; injection hi with hi; subst hi; exact hs.heap.below _ _ h2
  · by_cases hid : id = s.nx
    · subst hid; rw [hτn]; exact hsl
    · rw [hτ id hid]; exact hs.heap.slices id

theorem op_append (htt : ttOk P tt) {o : Oper} {x y : Operand} {t : TypeId} (ho : o.op = .call { callee := .builtin .append, args := #[x, y], argTypes := #[t, t] }) {K : D → St → Prop} (h : appendD tt s t (evD s x) (evD s y) K) : OpVC P false o s K := by
  intro E σ τ a w hs next Q hn
  unfold appendD at h
  split at h
  · rename_i el _ _ _ ht
    obtain ⟨de, i, z, k1, _, _, k4, _⟩ := view_spec (tfind_view htt ht)
    have := ud_slice k4; subst this
    split at h
    · rename_i ti he
      obtain ⟨_, q, zv, q1, q2, q3, _, q5, q6, q7⟩ := view_spec (tfind_view htt he)
      split at h
      · rename_i e old new hsize hzl hold hnew
        simp only [Nat.succ_eq_add_one] at hsize hold hnew h
        have hzl := Nat.eq_of_beq_eq_true hzl
        obtain ⟨β, enc, L, hL, hones, hbound, hbytes, hstill, hk⟩ := h
        have hxr := evD_rep hs x
        have hyr := evD_rep hs y
        rw [hsize] at hold hnew
        obtain ⟨xs, hown, holen, hmine, horep, hcase⟩ := own_spec hs hold hxr
        obtain ⟨p, c, news, hu, hnl, hnlen, hnrep, hsrc⟩ := src_spec hs (show 0 < e + 1 from Nat.succ_pos e) hnew hstill hyr
        have hlen : L.length = old.length + new.length := by have := congrArg List.length hL; simpa using this
        have hget : ∀ (i : Nat) y, L[i]? = some y → (old ++ new)[i]? = some (enc y) := by
          intro i y hy
          rw [← hL, List.getElem?_map, hy]; rfl
        have hel : ∀ (i : Nat) y, L[i]? = some y → (enc y).length = e + 1 := by
          intro i y hy
          have h1 := hget i y hy
          by_cases hi : i < old.length
          · rw [List.getElem?_append_left hi] at h1; exact holen i _ h1
          · rw [List.getElem?_append_right (by omega)] at h1; exact hnlen _ _ h1
        have hxl : xs.length = old.length * (e + 1) := hown.1
        have hrep : ∀ (i : Nat) y (j : Nat) d u, L[i]? = some y → (enc y)[j]? = some d → (xs ++ news)[i * (e + 1) + j]? = some u → Rep (ctxOf E s.H s.nx σ τ w).still d u := by
          intro i y j d u hy hd hu
          have h1 := hget i y hy
          have hj : j < e + 1 := by have := (List.getElem?_eq_some_iff.1 hd).1; rw [hel i y hy] at this; exact this
          by_cases hi : i < old.length
          · rw [List.getElem?_append_left hi] at h1
            have hb : i * (e + 1) + (e + 1) ≤ old.length * (e + 1) := by
              have := Nat.mul_le_mul_right (e + 1) (show i + 1 ≤ old.length from hi)
              rw [Nat.succ_mul] at this; exact this
            rw [List.getElem?_append_left (by rw [hxl]; omega)] at hu
            exact horep i _ j d u h1 hd hu
          · rw [List.getElem?_append_right (by omega)] at h1
            have hb : i * (e + 1) = old.length * (e + 1) + (i - old.length) * (e + 1) := by rw [← Nat.add_mul]; congr 1; omega
            rw [List.getElem?_append_right (by rw [hxl]; omega), hxl] at hu
            rw [show i * (e + 1) + j - old.length * (e + 1) = (i - old.length) * (e + 1) + j by omega] at hu
            exact hnrep _ _ j d u h1 hd hu
        -- each cell of what is appended is one cell
        have h1c : ∀ u ∈ news, u.oneCell' = true := by
          intro u hu
          obtain ⟨k, hk⟩ := List.mem_iff_getElem?.1 hu
          have hkl : k < new.length * (e + 1) := by have := (List.getElem?_eq_some_iff.1 hk).1; omega
          have hi : k / (e + 1) < new.length := Nat.div_lt_of_lt_mul (by rw [Nat.mul_comm]; exact hkl)
          have hnl2 : new[k / (e + 1)]? = some new[k / (e + 1)] := List.getElem?_eq_getElem hi
          have hl2 := hnlen _ _ hnl2
          have hmem : new[k / (e + 1)] ∈ L.map enc := by rw [hL]; exact List.mem_append_right _ (List.getElem_mem hi)
          obtain ⟨y, _, hy⟩ := List.mem_map.1 hmem
          have hj : k % (e + 1) < e + 1 := Nat.mod_lt _ (Nat.succ_pos e)
          have hsub : reps (ctxOf E s.H s.nx σ τ w).still new[k / (e + 1)] ((news.drop (k / (e + 1) * (e + 1))).take (e + 1)) := by
            have hb : k / (e + 1) * (e + 1) + (e + 1) ≤ new.length * (e + 1) := by
              have := Nat.mul_le_mul_right (e + 1) (show k / (e + 1) + 1 ≤ new.length from hi)
              rw [Nat.succ_mul] at this; exact this
            refine ⟨by simp; omega, fun j d v hd hv => ?_⟩
            have hj2 : j < e + 1 := by have := (List.getElem?_eq_some_iff.1 hd).1; omega
            rw [List.getElem?_take_of_lt hj2, List.getElem?_drop] at hv
            exact hnrep _ _ j d v hnl2 hd hv
          have hsane : (ctxOf E s.H s.nx σ τ w).still.Sane := ⟨fun _ _ _ h => h.elim, fun _ _ h => h.elim, fun _ _ _ h => h.elim⟩
          refine ones_rep hsane (by rw [← hy]; exact hones y) hsub u ?_
          have hdm : k / (e + 1) * (e + 1) + k % (e + 1) = k := Nat.div_add_mod' k (e + 1)
          refine List.mem_of_getElem? (i := k % (e + 1)) ?_
          rw [List.getElem?_take_of_lt hj, List.getElem?_drop, hdm]
          exact hk
        have hml : (maxLen : Nat) = 9223372036854775807 := by decide
        have hqz : zv.cells.size = e + 1 := by rw [← hsize, ← hzl, ← q7]; simp
        have hqs : q.size = e + 1 := by rw [q5, hsize]
        -- the run
        have hrun : ∃ v' w', (Builtin.append_ #[t, t] o.type #[a.eval x, a.eval y]).run P w = .ok v' w' ∧ w'.ownsRow 0 el (e + 1) v' (old.length + new.length) (xs ++ news) ∧ w.grownBy w' (a.eval x).ownBlock ∧
            (v'.ownBlock = none ∨ v'.ownBlock = (a.eval x).ownBlock ∨ v'.ownBlock = some w.heap.size) ∧ ∃ p l c, v' = .slice p l c := by
          have slc : ∀ {w' : World} {v' : Value} {n : Nat} {ys : List Value}, w'.ownsRow 0 el (e + 1) v' n ys → ∃ p l c, v' = .slice p l c := by
            intro w' v' n ys hh
            rcases hh.2 with ⟨h1, _⟩ | ⟨_, _, _, h1, _⟩ <;> exact ⟨_, _, _, h1⟩
          rcases hsrc with hnil | ⟨b, of, hp, hcells⟩
          · subst hnil
            have hn0 : news = [] := List.eq_nil_of_length_eq_zero (by rw [hnl]; simp)
            subst hn0
            obtain ⟨p0, l0, c0, hv0⟩ := slc hown
            have hle : l0 ≤ c0 ∧ l0 = old.length := by
              rcases hown.2 with ⟨h1, h2⟩ | ⟨g, cap, cur, h1, _, _, h3, _⟩
              · rw [h1] at hv0; injection hv0 with _ e2 e3; subst e2 e3; exact ⟨Nat.le_refl _, h2.symm⟩
              · rw [h1] at hv0; injection hv0 with _ e2 e3; subst e2 e3; exact ⟨h3, rfl⟩
            have hsrc0 : Src P q.size t (a.eval y) 0 [] w := by
              rw [hu]
              cases p with
              | none => exact Src.ofNil w k1 c
              | some ad => exact Src.ofSlice w k1 ad 0 c [] (by simp) (fun j u hj => by simp at hj) (fun u hu => by cases hu)
            refine ⟨a.eval x, w, ?_, by simpa using hown, ⟨rfl, rfl, rfl, Nat.le_refl _, fun _ _ _ => rfl⟩, .inr (.inl rfl), slc hown⟩
            rw [hv0]
            exact run_append_nothing w t t o.type el q k1 q2 p0 l0 c0 hle.1 (a.eval y) hsrc0
          · obtain ⟨v', w', g1, g2, g3, _, g5⟩ := run_append_own_at (P := P) w 0 t o.type el q zv (e + 1) ti.bytes k1 q2 q3 hqs q6 hqz (Nat.succ_pos e) (a.eval x) old.length xs hown ⟨b, of, none⟩ new.length c news hnl
              (fun j u hj => by rw [addr_add]; exact hcells j u hj) h1c (by rw [hml]; omega) (by rw [← hlen]; exact hbytes) (Nat.zero_le _)
            refine ⟨v', w', ?_, g2, g3, .inr g5, slc g2⟩
            rw [hu, hp]
            exact g1
        obtain ⟨v', w', r1, r2, r3, r4, r5⟩ := hrun
        rw [← hlen] at r2
        obtain ⟨F, H, nx, G⟩ := s
        obtain ⟨τ', r6, r7⟩ := grow_state hs hold hxr (run_mono _ _ _ _ r1) r3 r4 r5 r2 hel hrep
        have hexec : (execOp a.eval o).run P w = .ok (.value v') w' := by
          simp [execOp, ho, resolve, invoke, builtin, r1]
        unfold Oper.wp
        rw [hexec]
        exact hn _ _ _ _ _ _ hk r6 (.grow ⟨Nat.lt_succ_self _, r7.symm⟩) (fun h => by cases h)
      · cases h
    · cases h
  · cases h
theorem run_append_in {w w' : World} {t ty e : TypeId} {i : TypeInfo} (ht : P.underlying t = some (.slice e)) (hi : P.info? e = some i) {b off sLen sCap n : Nat} {x : Value} {news : List Value} (hs : Src P i.size t x n news w) (hfit : sLen + n ≤ sCap)
    (hst : (storeCells ⟨b, off + sLen * i.size, none⟩ news 0).run P w = .ok () w') : (Builtin.append_ #[t, t] ty #[.slice (some ⟨b, off, none⟩) sLen sCap, x]).run P w = .ok (.slice (some ⟨b, off, none⟩) (sLen + n) sCap) w' := by
  rcases hs.kind with ⟨e', hk⟩ | hk <;> simp [Builtin.append_, run_underlying ht, run_underlying hk, sizeOf, typeInfo, hi, hs.len, hfit, hs.cells, Addr.add_lit, hst]

theorem op_appendCut (htt : ttOk P tt) {o : Oper} {x y : Operand} {t : TypeId} {id n : Nat} (hcx : evD s x = .cut id n) (ho : o.op = .call { callee := .builtin .append, args := #[x, y], argTypes := #[t, t] }) {K : D → St → Prop} (h : appendCutD tt s t id n (evD s y) K) : OpVC P false o s K := by
  intro E σ τ a w hs next Q hn
  unfold appendCutD at h
  split at h
  · rename_i el _ _ _ ht
    obtain ⟨de, i, z, k1, _, _, k4, _⟩ := view_spec (tfind_view htt ht)
    have := ud_slice k4; subst this
    split at h
    · rename_i ti he
      obtain ⟨_, q, zv, q1, q2, q3, _, q5, q6, q7⟩ := view_spec (tfind_view htt he)
      split at h
      · rename_i β el' k enc L hl
        obtain ⟨new, hnew, hk0, hsz, hfit, hstill, L', hL', hones, hk⟩ := h
        have hxr := evD_rep hs x
        rw [hcx] at hxr
        have hyr := evD_rep hs y
        rw [hsz] at hnew
        obtain ⟨p, c, news, hu, hnl, hnlen, hnrep, hsrc⟩ := src_spec hs hk0 hnew hstill hyr
        obtain ⟨_, xs0, _, hlen0, _⟩ := hs.heap.grow id _ _ _ _ _ hl
        have hLL : L'.length = L.length := by have := congrArg List.length hL'; simp at this; omega
        have hget : ∀ (i : Nat) y, L'[i]? = some y → ((L.map enc).take n ++ new ++ (L.map enc).drop (n + new.length))[i]? = some (enc y) := by
          intro i y hy
          rw [← hL', List.getElem?_map, hy]; rfl
        have hparts : ∀ (i : Nat) y, L'[i]? = some y → (n ≤ i ∧ i < n + new.length ∧ new[i - n]? = some (enc y)) ∨ ((i < n ∨ n + new.length ≤ i) ∧ ∃ y0, L[i]? = some y0 ∧ enc y0 = enc y) := by
          intro i y hy
          have h1 := hget i y hy
          have hl1 : ((L.map enc).take n).length = n := by simp; omega
          by_cases h2 : i < n
          · rw [List.append_assoc, List.getElem?_append_left (by omega), List.getElem?_take_of_lt h2, List.getElem?_map] at h1
            cases hq : L[i]? with
            | none => rw [hq] at h1; cases h1
            | some y0 => rw [hq] at h1; simp only [Option.map_some, Option.some.injEq] at h1; exact .inr ⟨.inl h2, y0, rfl, h1⟩
          · by_cases h3 : i < n + new.length
            · rw [List.append_assoc, List.getElem?_append_right (by omega), hl1, List.getElem?_append_left (by omega)] at h1
              exact .inl ⟨by omega, h3, h1⟩
            · rw [List.getElem?_append_right (by simp; omega), List.getElem?_drop, List.getElem?_map] at h1
              rw [show n + new.length + (i - ((L.map enc).take n ++ new).length) = i by simp; omega] at h1
              cases hq : L[i]? with
              | none => rw [hq] at h1; cases h1
              | some y0 => rw [hq] at h1; simp only [Option.map_some, Option.some.injEq] at h1; exact .inr ⟨.inr (by omega), y0, rfl, h1⟩
        have hel : ∀ (i : Nat) y, L'[i]? = some y → (enc y).length = k := by
          intro i y hy
          rcases hparts i y hy with ⟨_, _, h1⟩ | ⟨_, y0, h1, h2⟩
          · exact hnlen _ _ h1
          · rw [← h2]; exact hlen0 _ _ h1
        have h1c : ∀ u ∈ news, u.oneCell' = true := by
          intro u hu
          obtain ⟨m, hm⟩ := List.mem_iff_getElem?.1 hu
          have hkl : m < new.length * k := by have := (List.getElem?_eq_some_iff.1 hm).1; omega
          have hi : m / k < new.length := Nat.div_lt_of_lt_mul (by rw [Nat.mul_comm]; exact hkl)
          have hnl2 : new[m / k]? = some new[m / k] := List.getElem?_eq_getElem hi
          have hl2 := hnlen _ _ hnl2
          have hmem : new[m / k] ∈ L'.map enc := by rw [hL']; exact List.mem_append_left _ (List.mem_append_right _ (List.getElem_mem hi))
          obtain ⟨y, _, hy⟩ := List.mem_map.1 hmem
          have hj : m % k < k := Nat.mod_lt _ hk0
          have hsub : reps (ctxOf E s.H s.nx σ τ w).still new[m / k] ((news.drop (m / k * k)).take k) := by
            have hb : m / k * k + k ≤ new.length * k := by
              have := Nat.mul_le_mul_right k (show m / k + 1 ≤ new.length from hi)
              rw [Nat.succ_mul] at this; exact this
            refine ⟨by simp; omega, fun j d v hd hv => ?_⟩
            have hj2 : j < k := by have := (List.getElem?_eq_some_iff.1 hd).1; omega
            rw [List.getElem?_take_of_lt hj2, List.getElem?_drop] at hv
            exact hnrep _ _ j d v hnl2 hd hv
          have hsane : (ctxOf E s.H s.nx σ τ w).still.Sane := ⟨fun _ _ _ h => h.elim, fun _ _ h => h.elim, fun _ _ _ h => h.elim⟩
          refine ones_rep hsane (by rw [← hy]; exact hones y) hsub u ?_
          have hdm : m / k * k + m % k = m := Nat.div_add_mod' m k
          refine List.mem_of_getElem? (i := m % k) ?_
          rw [List.getElem?_take_of_lt hj, List.getElem?_drop, hdm]
          exact hm
        generalize hpx : a.eval x = px at hxr
        cases hxr with
        | cut hg hn0 =>
          rename_i m0 c' p'
          obtain ⟨hid, hg⟩ := hg
          obtain ⟨p1, c1, hv, hc, hp0, hp⟩ := own_shape hs hl
          obtain ⟨rfl, rfl, rfl⟩ : p' = p1 ∧ m0 = L.length ∧ c' = c1 := by
            rw [hv] at hg; injection hg with e1 e2 e3; exact ⟨e1, e2, e3⟩
          obtain ⟨F, H, nx, G⟩ := s
          by_cases hne : new = []
          · subst hne
            have hn0 : news = [] := List.eq_nil_of_length_eq_zero (by rw [hnl]; simp)
            subst hn0
            have hsrc0 : Src P q.size t (a.eval y) 0 [] w := by
              rw [hu]
              cases p with
              | none => exact Src.ofNil w k1 c
              | some ad => exact Src.ofSlice w k1 ad 0 c [] (by simp) (fun j u hj => by simp at hj) (fun u hu => by cases hu)
            have hrun := run_append_nothing (P := P) w t t o.type el q k1 q2 p' n c' (by omega) (a.eval y) hsrc0
            have hexec : (execOp a.eval o).run P w = .ok (.value (.slice p' n c')) w := by
              simp [execOp, ho, resolve, invoke, builtin, hpx, hrun]
            unfold Oper.wp
            rw [hexec]
            have hrep0 : ∀ (i : Nat) x (j : Nat) d, L'[i]? = some x → (enc x)[j]? = some d → ∃ y, L[i]? = some y ∧ (enc y)[j]? = some d := by
              intro i x j d hx hd
              rcases hparts i x hx with ⟨h1, h2, _⟩ | ⟨_, y0, h1, h2⟩
              · simp at h2; omega
              · exact ⟨y0, h1, by rw [h2]; exact hd⟩
            refine hn _ _ σ τ _ _ hk ?_ (.cut ⟨hid, hg⟩ (by simpa using hn0)) (fun h => by cases h)
            by_cases hLz : 0 < L.length
            · obtain ⟨w2, r1, r2⟩ := over_state (P := P) (L' := L') hs hl hLL [] 0 (fun v hv => by cases hv) hLz (by simp) hel (fun i x j d hx hd => .inr ⟨by simp only [List.length_nil]; omega, hrep0 i x j d hx hd⟩)
              have e1 : w2 = w := by simp [storeCells] at r1; exact r1.symm
              subst e1
              exact r2
            · have hL0 : L = [] := List.eq_nil_of_length_eq_zero (by omega)
              subst hL0
              have hL0' : L' = [] := List.eq_nil_of_length_eq_zero (by simpa using hLL)
              subst hL0'
              have hown : ∀ {j b : Nat}, owned ((id, LO.grow β el' k enc []) :: H) σ τ j b → owned H σ τ j b := fun ho => owned_over hl ho
              have hle : (ctxOf E H nx σ τ w).Le (ctxOf E ((id, LO.grow β el' k enc []) :: H) nx σ τ w) := ⟨fun _ _ _ h => h, fun b hb => ⟨hb.1, hb.2.1, fun j ho => hb.2.2 j (hown ho)⟩, fun _ _ _ h => h, fun _ _ h => h, fun _ _ _ h => h⟩
              refine ⟨⟨hs.heap.kept, hs.heap.few, fun j el2 l2 h => ?_, fun j α e2 e3 enc2 L2 h => ?_, fun i j b h1 h2 => hs.heap.apart i j b (hown h1) (hown h2), fun j o h => ?_, hs.heap.slices, fun j o h => by
                have hj : j ≠ id := by rintro rfl; rw [lget_same] at h; cases h
                rw [lget_ne _ _ hj] at h
                exact ⟨(hs.heap.obj j o h).1, OA.at_mono (hs.heap.obj j o h).2 (fun _ _ => rfl) (Nat.le_refl _) hle.still⟩⟩, hs.defers, hs.size, fun i d h => (hs.slots i d h).mono hle, hs.ghost_le rfl hle, hs.room⟩
              · have hj : j ≠ id := by rintro rfl; rw [lget_same] at h; cases h
                rw [lget_ne _ _ hj] at h
                obtain ⟨h1, c2, h2, h3, h4⟩ := hs.heap.cells j el2 l2 h
                exact ⟨h1, c2, h2, h3, fun i d u hd hu => (h4 i d u hd hu).mono hle⟩
              · have h' : lget H j = some (.grow α e2 e3 enc2 L2) := by
                  by_cases hj : j = id
                  · subst hj; rw [lget_same] at h; rw [← h]; exact hl
                  · rw [lget_ne _ _ hj] at h; exact h
                obtain ⟨h1, xs2, h2, h3, h4⟩ := hs.heap.grow j α e2 e3 enc2 L2 h'
                exact ⟨h1, xs2, h2, h3, fun i x k d u hx hd hu => (h4 i x k d u hx hd hu).mono hle.still⟩
              · by_cases hj : j = id
                · subst hj; exact hs.heap.below j _ hl
                · rw [lget_ne _ _ hj] at h; exact hs.heap.below j o h
          · rcases hsrc with hnil | ⟨b, of, hpp, hcells⟩
            · exact absurd hnil hne
            · have hnpos : 0 < new.length := List.length_pos_iff.2 hne
              have hLpos : 0 < L.length := by omega
              have hcpos : 0 < c' := by omega
              obtain ⟨w2, r1, r2⟩ := over_state (P := P) (L' := L') hs hl hLL news (n * k) h1c hLpos (by rw [hnl, ← Nat.add_mul]; exact Nat.mul_le_mul_right k hfit) hel (fun i x j d hx hd => by
                have hj : j < k := by have := (List.getElem?_eq_some_iff.1 hd).1; rw [hel i x hx] at this; exact this
                rcases hparts i x hx with ⟨h1, h2, h3⟩ | ⟨h1, y0, h2, h3⟩
                · have hb1 := Nat.mul_le_mul_right k h1
                  have hb2 := Nat.mul_le_mul_right k (show i + 1 ≤ n + new.length from h2)
                  rw [Nat.succ_mul, Nat.add_mul] at hb2
                  refine .inl ⟨⟨by omega, by rw [hnl]; omega⟩, fun u hu => ?_⟩
                  rw [show i * k + j - n * k = (i - n) * k + j by rw [Nat.sub_mul]; omega] at hu
                  exact hnrep _ _ j d u h3 hd hu
                · refine .inr ⟨fun hr => ?_, y0, h2, by rw [h3]; exact hd⟩
                  rw [hnl] at hr
                  rcases h1 with h1 | h1
                  · have hb := Nat.mul_le_mul_right k (show i + 1 ≤ n from h1)
                    rw [Nat.succ_mul] at hb
                    omega
                  · have hb := Nat.mul_le_mul_right k h1
                    rw [Nat.add_mul] at hb
                    omega)
              have hp1 := hp hcpos
              have hsr : Src P q.size t (a.eval y) new.length news w := by
                rw [hu, hpp]
                exact Src.ofSlice w k1 _ _ c news (by rw [q5, hsz]; exact hnl) (fun j u hj => by rw [addr_add]; exact hcells j u hj) h1c
              have hrun := run_append_in (P := P) (ty := o.type) (off := 0) k1 q2 hsr (show n + new.length ≤ c' by omega) (b := (τ id).ownBlock.getD 0) (w' := w2) (by rw [q5, hsz, Nat.zero_add]; exact r1)
              have hexec : (execOp a.eval o).run P w = .ok (.value (.slice p' (n + new.length) c')) w2 := by
                rw [hp1]
                simp [execOp, ho, resolve, invoke, builtin, hpx, hp1, hrun]
              unfold Oper.wp
              rw [hexec]
              exact hn _ _ σ τ _ _ hk r2 (.cut ⟨hid, hg⟩ hfit) (fun h => by cases h)
      · cases h
    · cases h
  · cases h

theorem op_appendMake (htt : ttOk P tt) {o : Oper} {x y : Operand} {t u : TypeId} (ho : o.op = .call { callee := .builtin .append, args := #[x, y], argTypes := #[t, u] }) {K : D → St → Prop} (h : appendMakeD tt s t u (evD s x) (evD s y) K) : OpVC P false o s K := by
  intro E σ τ a w hs next Q hn
  unfold appendMakeD at h
  split at h
  · rename_i el _ _ _ ik _ _ _ ht hu
    obtain ⟨de, i, z, k1, _, _, k4, _⟩ := view_spec (tfind_view htt ht)
    have := ud_slice k4; subst this
    obtain ⟨de2, i2, z2, u1, _, _, u4, _⟩ := view_spec (tfind_view htt hu)
    have := ud_int u4; subst this
    split at h
    · rename_i ti he
      obtain ⟨_, q, zv, q1, q2, q3, _, q5, q6, q7⟩ := view_spec (tfind_view htt he)
      split at h
      · rename_i kk nn hcx hcy
        obtain ⟨hs0, hzl, ⟨hn0, hn1, hn2⟩, β, enc, zz, hzz, hk⟩ := h
        have hxr := evD_rep hs x
        rw [hcx] at hxr
        have hxv := rep_v hxr
        have hyr := evD_rep hs y
        rw [hcy] at hyr
        have hyv := rep_v hyr
        have hzc : zv.cells.size = ti.size := by rw [← hzl, ← q7]; simp
        obtain ⟨m, rfl⟩ : ∃ m : Nat, nn = (m : Int) := ⟨nn.toNat, by omega⟩
        have hwr : IntKind.i64.wrap (m : Int) = m := IntWalk.i64_in _ (by omega)
        have hb2 : m * ti.bytes ≤ 140737488355328 := Int.ofNat_le.1 (by rw [Int.natCast_mul]; exact hn2)
        have h48 : ¬ (281474976710656 < Builtin.nextslicecap m 0 * q.bytes) := by rw [nextslicecap_zero (by omega), q6]; omega
        have h48b : ¬ (281474976710656 : Int) < (m : Int) * (q.bytes : Int) := by rw [q6]; have hn2 : (m : Int) * ti.bytes ≤ 140737488355328 := hn2; omega
        have hrun : (Builtin.append_ #[t, u] o.type #[.slice none 0 0, .int kk (m : Int)]).run P w =
            .ok (.slice (some ⟨w.heap.size, 0, none⟩) m (grownCap w m 0 el)) (w.drew.alloc (.cells (Builtin.zeroCells zv.cells m ++ Builtin.zeroCells zv.cells (grownCap w m 0 el - m)) el)) := by
          have e1 : m ≠ 0 := by omega
          have e2 : ¬ (9223372036854775807 < (m : Int)) := by omega
          have e3 : ¬ ((m : Int) < 0) := by omega
          have e4 : ¬ (m * q.size = 0) := fun h => by rcases Nat.mul_eq_zero.1 h with h | h <;> omega
          simp [Builtin.append_, run_underlying k1, run_underlying u1, sizeOf, typeInfo, zeroValue, q2, q3, asInt, asIntOf, hwr, e1, e2, e3, e4, h48, h48b, Question.forced, run_firstCells_none, newRow, grownCap]
        have hge := grownCap_ge w m 0 el
        have hml : (maxLen : Nat) = 9223372036854775807 := by decide
        have hcm : grownCap w m 0 el ≤ maxLen := grownCap_le_maxLen w m 0 el (by rw [hml]; omega)
        have hzsz : (Builtin.zeroCells zv.cells m).size = m * ti.size := by rw [size_zeroCells, hzc]
        have hown : (w.drew.alloc (.cells (Builtin.zeroCells zv.cells m ++ Builtin.zeroCells zv.cells (grownCap w m 0 el - m)) el)).ownsRow 0 el ti.size (.slice (some ⟨w.heap.size, 0, none⟩) m (grownCap w m 0 el)) m (Builtin.zeroCells zv.cells m).toList := by
          refine ⟨by simp [hzsz], .inr ⟨w.heap.size, _, _, rfl, Nat.zero_le _, heap_alloc_new w.drew _, hge, hcm, ?_, ?_⟩⟩
          · rw [Array.size_append, hzsz, size_zeroCells, hzc, ← Nat.add_mul]; congr 1; omega
          · rw [Array.toList_append]
            have : m * ti.size = (Builtin.zeroCells zv.cells m).toList.length := by simp [hzsz]
            rw [this]
            exact List.take_left
        obtain ⟨F, H, nx, G⟩ := s
        have hgr : w.grownBy (w.drew.alloc (.cells (Builtin.zeroCells zv.cells m ++ Builtin.zeroCells zv.cells (grownCap w m 0 el - m)) el)) (Value.ownBlock (.slice none 0 0)) := ⟨rfl, rfl, rfl, by simp, fun k hk _ => heap_alloc_old w.drew _ hk⟩
        obtain ⟨τ', r6, r7⟩ := grow_state (dst := .v (.slice none 0 0)) (u := .slice none 0 0) (el := el) (e := ti.size) (old := []) hs (by simp [ownRows]) .v (Nat.le_succ _) hgr (.inr (.inr rfl)) ⟨_, _, _, rfl⟩ (β := β) (enc := enc) (L := List.replicate m zz) (xs := (Builtin.zeroCells zv.cells m).toList)
          (by rw [List.length_replicate]; exact hown) (fun i x hx => by
            have := List.eq_of_mem_replicate (List.mem_of_getElem? hx)
            subst this
            rw [hzz, List.length_map, hzl]) (fun i x j d v hx hd hv => by
            have := List.eq_of_mem_replicate (List.mem_of_getElem? hx)
            subst this
            have hj : j < ti.size := by have := (List.getElem?_eq_some_iff.1 hd).1; rw [hzz, List.length_map, hzl] at this; exact this
            have hi : i < m := by have := (List.getElem?_eq_some_iff.1 hx).1; simpa using this
            have hb : i * ti.size + ti.size ≤ m * ti.size := by
              have := Nat.mul_le_mul_right ti.size (show i + 1 ≤ m from hi)
              rw [Nat.succ_mul] at this; exact this
            rw [hzz, List.getElem?_map] at hd
            have hm : (i * ti.size + j) % zv.cells.size = j := by rw [hzc, Nat.add_comm, Nat.add_mul_mod_self_right]; exact Nat.mod_eq_of_lt hj
            have hv2 : zv.cells.toList[j]? = some v := by
              have h1 : (Builtin.zeroCells zv.cells m).toList[i * ti.size + j]? = zv.cells[(i * ti.size + j) % zv.cells.size]? := by
                have h2 : (i * ti.size + j) % zv.cells.size < zv.cells.size := by rw [hm, hzc]; exact hj
                simp only [Builtin.zeroCells, Array.toList_map, List.getElem?_map, Array.getElem?_toList, Array.getElem?_range, hzc]
                rw [if_pos (by omega)]
                simp only [Option.map_some]
                rw [← hzc] at h2 ⊢
                rw [getElem!_pos zv.cells _ h2, Array.getElem?_eq_getElem h2]
              rw [h1, hm] at hv
              rw [Array.getElem?_toList]
              exact hv
            rw [← q7, hv2] at hd
            simp only [Option.map_some, Option.some.injEq] at hd
            subst hd
            exact .v)
        have hexec : (execOp a.eval o).run P w = .ok (.value (.slice (some ⟨w.heap.size, 0, none⟩) m (grownCap w m 0 el))) (w.drew.alloc (.cells (Builtin.zeroCells zv.cells m ++ Builtin.zeroCells zv.cells (grownCap w m 0 el - m)) el)) := by
          simp [execOp, ho, resolve, invoke, builtin, hxv, hyv, hrun]
        unfold Oper.wp
        rw [hexec]
        have hk : K (.grow nx) ⟨F, (nx, .grow β el ti.size enc (List.replicate m zz)) :: H, nx + 1, G⟩ := hk
        exact hn _ _ _ _ _ _ hk r6 (.grow ⟨Nat.lt_succ_self _, r7.symm⟩) (fun h => by cases h)
      · cases h
    · cases h
  · cases h

theorem loud_empty (htt : ttOk P tt) {o : Oper} {t : TypeId} (ho : o.op = .buildSlice t 0 #[]) {g : Bool} {K : D → St → Prop} (h : buildEmptyD tt s t K) : OpVC P g o s K := by
  intro E σ τ a w hs next Q hn
  unfold buildEmptyD at h
  split at h
  · rename_i e _ _ _ ht
    obtain ⟨de, i, z, k1, _, _, k4, _⟩ := view_spec (tfind_view htt ht)
    have := ud_slice k4; subst this
    split at h
    · rename_i ti he
      obtain ⟨_, q, zv, q1, q2, q3, _, q5, _, q7⟩ := view_spec (tfind_view htt he)
      split at h
      · cases h
      · rename_i k hk
        obtain ⟨F, H, nx, G⟩ := s
        have hrun : (execOp a.eval o).run P w = .ok (.value (.slice (some ⟨w.heap.size, 0, none⟩) 0 0)) (w.alloc (.cells #[] e)) := by
          have e0 : Array.range 0 = #[] := Array.eq_empty_of_size_eq_zero (by simp)
          simp [execOp, ho, Instr.buildSlice, run_und k1, run_size q2, Instr.fill, newRow_at, e0]
        obtain ⟨τ', r6, r7⟩ := grow_state (dst := .v (.slice none 0 0)) (u := .slice none 0 0) (el := e) (e := k + 1) (old := []) (v' := .slice (some ⟨w.heap.size, 0, none⟩) 0 0) (β := Unit) (enc := fun _ => []) (L := []) (xs := []) (w' := w.alloc (.cells #[] e)) hs rfl .v (Nat.le_refl _)
          (World.grownBy_alloc w (.cells #[] e) _) (.inr (.inr rfl)) ⟨_, _, _, rfl⟩ (World.ownsRow_made (base := 0) w #[] 0 (Nat.zero_le _) (Nat.zero_le _) (by simp)) (fun i x h => by simp at h) (fun i x j d u h => by simp at h)
        unfold Oper.wp
        rw [hrun]
        exact hn _ _ _ _ _ _ h r6 (.grow ⟨Nat.lt_succ_self _, r7.symm⟩) (fun _ => (Below.refl _ _).alloc (Nat.le_refl _) _)
    · cases h
  · cases h

theorem op_conv (htt : ttOk P tt) {g : Bool} {o : Oper} {src dst : TypeId} {x : Operand} (ho : o.op = .convert src dst x) {K : D → St → Prop} (h : convD tt src dst (evD s x) fun d => K d s) : OpVC P g o s K := by
  intro E σ τ a w hs next Q hn
  obtain ⟨d, v, h1, h2, h3⟩ := convD_run (P := P) htt h (evD_rep hs x)
  have hexec : (execOp a.eval o).run P w = .ok (.value v) w := by simp [execOp, ho, h3]
  unfold Oper.wp
  rw [hexec]
  exact hn _ _ _ _ _ _ h1 hs h2 (fun _ => Below.refl _ _)

theorem loudD_sound (htt : ttOk P tt) (hb : entersAll P = true) {g : Bool} {o : Oper} {K : D → St → Prop} (h : loudD P tt g s o K) : OpVC P g o s K := by
  unfold loudD at h
  split at h
  · rename_i t ho; exact loud_alloc htt ho h
  · rename_i t x ho; exact loud_box ho h
  · rename_i t ho; exact loud_empty htt ho h
  · rename_i t n ps hno ho
    split at h
    · exact h
    · exact loud_buildSlice htt ho h
  · rename_i src dst x ho
    unfold convK at h
    split at h
    · exact op_conv htt ho h
    · exact op_conv htt ho h
    · exact h
  · rename_i t x v ho
    cases g with
    | true => exact h
    | false => exact (exactK_or h).elim id fun h => (ownK_or h).elim id fun h => loud_store htt ho h
  · rename_i x y t u ho
    split at h
    · rename_i hg htu
      have htu := Nat.eq_of_beq_eq_true htu
      subst htu
      rcases exactK_or h with h | h
      · exact h
      split at h
      · rename_i hcx
        exact op_appendCut htt hcx ho h
      · exact h
      · exact h
      · exact op_append htt ho h
    · split at h
      · exact h
      · exact op_appendMake htt ho h
    · exact h
  · rename_i x t ho
    cases g with
    | true => exact h
    | false => exact loud_clear htt ho h
  · rename_i f args ats ho
    split at h
    · rename_i fid first captured hf
      rw [seeL_eq] at h
      intro E σ τ a w hs next Q hn
      have hfv := evD_rep hs f
      rw [hf] at hfv
      generalize hfu : a.eval f = fv at hfv
      cases hfv with
      | fn h1 h2 h3 h4 =>
        rename_i vf vc
        have hargs : reps (ctxOf E s.H s.nx σ τ w) (first ++ listD s args.toList ++ captured) (vf.toList ++ args.toList.map a.eval ++ vc.toList) :=
          reps_append (reps_append ⟨by simpa using h1, fun j d u a b => h3 j d u a (by simpa using b)⟩ (listD_rep hs _)) ⟨by simpa using h2, fun j d u a b => h4 j d u a (by simpa using b)⟩
        obtain ⟨⟨fn, hfn, hbody⟩, hcall⟩ := h
        have e1 : vf ++ args.map a.eval ++ vc = (vf.toList ++ args.toList.map a.eval ++ vc.toList).toArray := by apply Array.ext'; simp
        have hrun : (execOp a.eval o).run P w = .ok (.enter fid (vf ++ args.map a.eval ++ vc)) w := by
          simp only [execOp, ho, resolve, Deferred.ofValue, hfu, Sem.run_pure, Sem.run_bind, Result.andThen_ok, invoke]
          exact call_enters hb hfn hbody _ w
        refine upon_call hrun ?_
        rw [e1]
        refine (hcall E σ τ a w _ hs hargs).mono fun e w' hh => ?_
        obtain ⟨d, s', σ', τ', v, h5, rfl, h6, h7, h8⟩ := hh
        exact ⟨v, rfl, hn d s' σ' τ' v w' h5 h6 h7 h8⟩
    · cases h
  · exact h
end
end Go.Proofs.Ytfghccppoilfhaa.V
