/-
  Numbers that came, as rows of pieces: what is laid among them, plainly. No condition.
-/
import Derived.Test.YtclkaacdbhbigaaRow
namespace Go.Proofs.Ytclkaacdbhbigaa.Sp

structure Pc where
  fr : Int
  to : Int
/-- A piece of numbers, no farther than half the way round. -/
structure Pc.ok (p : Pc) : Prop where
  lo : 0 ≤ p.fr
  lt : p.fr < p.to
  hi : p.to ≤ 2147483648
/-- Pieces that rise and don't meet. -/
structure Canon (L : List Pc) : Prop where
  sep : L.Pairwise fun x y => x.to < y.fr
  ok : ∀ x, x ∈ L → x.ok
def mem (L : List Pc) (n : Int) : Prop := ∃ x, x ∈ L ∧ x.fr ≤ n ∧ n < x.to
def count : List Pc → Int
  | [] => 0
  | x :: r => (x.to - x.fr) + count r
theorem count_append : ∀ L M : List Pc, count (L ++ M) = count L + count M
  | [], M => by simp [count]
  | x :: r, M => by simp only [List.cons_append, count, count_append r M]; omega
theorem mem_append {L M : List Pc} {n : Int} : mem (L ++ M) n ↔ mem L n ∨ mem M n := by
  constructor
  · rintro ⟨x, hx, h⟩
    rcases List.mem_append.1 hx with hx | hx
    · exact .inl ⟨x, hx, h⟩
    · exact .inr ⟨x, hx, h⟩
  · rintro (⟨x, hx, h⟩ | ⟨x, hx, h⟩)
    · exact ⟨x, List.mem_append_left _ hx, h⟩
    · exact ⟨x, List.mem_append_right _ hx, h⟩
theorem mem_one {p : Pc} {n : Int} : mem [p] n ↔ p.fr ≤ n ∧ n < p.to :=
  ⟨fun ⟨_, hx, h⟩ => by rw [List.mem_singleton.1 hx] at h; exact h, fun h => ⟨p, List.mem_singleton.2 rfl, h⟩⟩
theorem mem_nil {n : Int} : ¬ mem [] n := fun ⟨_, hx, _⟩ => by cases hx

/-- A piece put where it belongs. -/
def ins (p : Pc) : List Pc → List Pc
  | [] => [p]
  | y :: r => match decide (p.fr < y.fr) with
    | true => p :: y :: r
    | false => y :: ins p r
theorem ins_perm (p : Pc) : ∀ L : List Pc, (ins p L).Perm (L ++ [p])
  | [] => List.Perm.refl _
  | y :: r => by
    unfold ins
    split
    · exact (List.perm_append_singleton p (y :: r)).symm
    · exact (ins_perm p r).cons y
theorem ins_mem {p : Pc} {L : List Pc} {n : Int} : mem (ins p L) n ↔ mem L n ∨ (p.fr ≤ n ∧ n < p.to) := by
  rw [← mem_one, ← mem_append]
  unfold mem
  constructor
  · rintro ⟨x, hx, h⟩; exact ⟨x, (ins_perm p L).mem_iff.1 hx, h⟩
  · rintro ⟨x, hx, h⟩; exact ⟨x, (ins_perm p L).mem_iff.2 hx, h⟩
theorem ins_count (p : Pc) : ∀ L : List Pc, count (ins p L) = count L + (p.to - p.fr)
  | [] => by simp [ins, count]
  | y :: r => by
    unfold ins
    split
    · simp only [count]; omega
    · simp only [count, ins_count p r]; omega
theorem ins_canon {p : Pc} {L : List Pc} (hL : Canon L) (hp : p.ok) (h : ∀ x, x ∈ L → x.to < p.fr ∨ p.to < x.fr) : Canon (ins p L) := by
  constructor
  · have key : ∀ L : List Pc, L.Pairwise (fun x y => x.to < y.fr) → (∀ x, x ∈ L → x.ok) → (∀ x, x ∈ L → x.to < p.fr ∨ p.to < x.fr) → (ins p L).Pairwise fun x y => x.to < y.fr := by
      intro L
      induction L with
      | nil => intro _ _ _; simp [ins]
      | cons y r ih =>
        intro hs ho hm
        have hy := ho y List.mem_cons_self
        have hs' := List.pairwise_cons.1 hs
        unfold ins
        split
        · rename_i hlt
          have hlt := of_decide_eq_true hlt
          have hym : p.to < y.fr := by rcases hm y List.mem_cons_self with h1 | h1 <;> have := hy.lt <;> omega
          refine List.pairwise_cons.2 ⟨fun z hz => ?_, hs⟩
          rcases List.mem_cons.1 hz with rfl | hz
          · exact hym
          · have := hs'.1 z hz; have := hy.lt; omega
        · rename_i hlt
          have hlt := of_decide_eq_false hlt
          have hym : y.to < p.fr := by rcases hm y List.mem_cons_self with h1 | h1 <;> have := hp.lt <;> omega
          refine List.pairwise_cons.2 ⟨fun z hz => ?_, ih hs'.2 (fun x hx => ho x (List.mem_cons_of_mem _ hx)) fun x hx => hm x (List.mem_cons_of_mem _ hx)⟩
          rcases List.mem_append.1 ((ins_perm p r).mem_iff.1 hz) with hz | hz
          · exact hs'.1 z hz
          · rw [List.mem_singleton.1 hz]; exact hym
    exact key L hL.sep hL.ok h
  · intro x hx
    rcases List.mem_append.1 ((ins_perm p L).mem_iff.1 hx) with hx | hx
    · exact hL.ok x hx
    · rw [List.mem_singleton.1 hx]; exact hp

/-! ### A piece laid among others -/
structure Lay where
  out : List Pc
  p : Pc
  n : Int
def step (s : Lay) (x : Pc) : Lay := match decide (x.to < s.p.fr) || decide (s.p.to < x.fr) with
  | true => ⟨s.out ++ [x], s.p, s.n⟩
  | false => ⟨s.out, ⟨min x.fr s.p.fr, max x.to s.p.to⟩, s.n - max (min x.to s.p.to - max x.fr s.p.fr) 0⟩
def layTo (L : List Pc) (p : Pc) : Nat → Lay
  | 0 => ⟨[], p, p.to - p.fr⟩
  | k + 1 => match L[k]? with
    | some x => step (layTo L p k) x
    | none => layTo L p k
def layF (L : List Pc) (p : Pc) : List Pc := ins (layTo L p L.length).p (layTo L p L.length).out
def layN (L : List Pc) (p : Pc) : Int := (layTo L p L.length).n

structure Inv (P R : List Pc) (p : Pc) (s : Lay) : Prop where
  sub : s.out.Sublist P
  pok : s.p.ok
  lo : s.p.fr ≤ p.fr
  hi : p.to ≤ s.p.to
  apart : ∀ x, x ∈ s.out → x.to < s.p.fr ∨ (s.p.to < x.fr)
  far : s.p.to = p.to ∨ ∀ y, y ∈ R → s.p.to < y.fr
  mem : ∀ n, (mem s.out n ∨ (s.p.fr ≤ n ∧ n < s.p.to)) ↔ (mem P n ∨ (p.fr ≤ n ∧ n < p.to))
  num : s.n = count s.out + (s.p.to - s.p.fr) - count P

theorem inv_step {P R : List Pc} {p x : Pc} {s : Lay} (hc : Canon (P ++ x :: R)) (h : Inv P (x :: R) p s) : Inv (P ++ [x]) R p (step s x) := by
  have hxo := hc.ok x (List.mem_append_right _ List.mem_cons_self)
  have hPx : ∀ y, y ∈ P → y.to < x.fr := fun y hy => (List.pairwise_append.1 hc.sep).2.2 y hy x List.mem_cons_self
  have hxR : ∀ y, y ∈ R → x.to < y.fr := fun y hy => (List.pairwise_cons.1 (List.pairwise_append.1 hc.sep).2.1).1 y hy
  have hp := h.pok
  obtain ⟨g1, g2, g3⟩ := hp
  obtain ⟨x1, x2, x3⟩ := hxo
  unfold step
  cases hm : decide (x.to < s.p.fr) || decide (s.p.to < x.fr) with
  | true =>
    simp only [Bool.or_eq_true, decide_eq_true_eq] at hm
    refine ⟨h.sub.append (List.Sublist.refl _), h.pok, h.lo, h.hi, fun y hy => ?_, ?_, fun n => ?_, ?_⟩
    · rcases List.mem_append.1 hy with hy | hy
      · exact h.apart y hy
      · rw [List.mem_singleton.1 hy]; exact hm
    · rcases h.far with h1 | h1
      · exact .inl h1
      · exact .inr fun y hy => h1 y (List.mem_cons_of_mem _ hy)
    · have := h.mem n
      show (mem (s.out ++ [x]) n ∨ _) ↔ (mem (P ++ [x]) n ∨ _)
      rw [mem_append, mem_append]
      constructor
      · rintro ((h1 | h1) | h1)
        · rcases this.1 (.inl h1) with h2 | h2
          · exact .inl (.inl h2)
          · exact .inr h2
        · exact .inl (.inr h1)
        · rcases this.1 (.inr h1) with h2 | h2
          · exact .inl (.inl h2)
          · exact .inr h2
      · rintro ((h1 | h1) | h1)
        · rcases this.2 (.inl h1) with h2 | h2
          · exact .inl (.inl h2)
          · exact .inr h2
        · exact .inl (.inr h1)
        · rcases this.2 (.inr h1) with h2 | h2
          · exact .inl (.inl h2)
          · exact .inr h2
    · have := h.num
      show s.n = count (s.out ++ [x]) + (s.p.to - s.p.fr) - count (P ++ [x])
      rw [count_append, count_append]
      omega
  | false =>
    simp only [Bool.or_eq_false_iff, decide_eq_false_iff_not] at hm
    have e1 : min x.fr s.p.fr ≤ s.p.fr ∧ min x.fr s.p.fr ≤ x.fr ∧ (min x.fr s.p.fr = x.fr ∨ min x.fr s.p.fr = s.p.fr) := by omega
    have e2 : s.p.to ≤ max x.to s.p.to ∧ x.to ≤ max x.to s.p.to ∧ (max x.to s.p.to = x.to ∨ max x.to s.p.to = s.p.to) := by omega
    refine ⟨h.sub.trans (List.sublist_append_left _ _), ⟨?_, ?_, ?_⟩, ?_, ?_, fun y hy => ?_, ?_, fun n => ?_, ?_⟩
    · show 0 ≤ min x.fr s.p.fr; omega
    · show min x.fr s.p.fr < max x.to s.p.to; omega
    · show max x.to s.p.to ≤ _; omega
    · have := h.lo; show min x.fr s.p.fr ≤ _; omega
    · have := h.hi; show _ ≤ max x.to s.p.to; omega
    · have h1 := hPx y (h.sub.subset hy)
      have hyo := hc.ok y (List.mem_append_left _ (h.sub.subset hy))
      have := hyo.lt
      show y.to < min x.fr s.p.fr ∨ max x.to s.p.to < y.fr
      rcases h.apart y hy with h2 | h2 <;> omega
    · by_cases hq : x.to ≤ s.p.to
      · have : max x.to s.p.to = s.p.to := by omega
        rcases h.far with h1 | h1
        · left; show max x.to s.p.to = _; omega
        · right
          intro y hy
          have := h1 y (List.mem_cons_of_mem _ hy)
          show max x.to s.p.to < _
          omega
      · right
        intro y hy
        have := hxR y hy
        show max x.to s.p.to < _
        omega
    · have := h.mem n
      show (mem s.out n ∨ (min x.fr s.p.fr ≤ n ∧ n < max x.to s.p.to)) ↔ (mem (P ++ [x]) n ∨ _)
      rw [mem_append, mem_one]
      have hull : (min x.fr s.p.fr ≤ n ∧ n < max x.to s.p.to) ↔ (x.fr ≤ n ∧ n < x.to) ∨ (s.p.fr ≤ n ∧ n < s.p.to) := by omega
      rw [hull]
      constructor
      · rintro (h1 | h1 | h1)
        · rcases this.1 (.inl h1) with h2 | h2
          · exact .inl (.inl h2)
          · exact .inr h2
        · exact .inl (.inr h1)
        · rcases this.1 (.inr h1) with h2 | h2
          · exact .inl (.inl h2)
          · exact .inr h2
      · rintro ((h1 | h1) | h1)
        · rcases this.2 (.inl h1) with h2 | h2
          · exact .inl h2
          · exact .inr (.inr h2)
        · exact .inr (.inl h1)
        · rcases this.2 (.inr h1) with h2 | h2
          · exact .inl h2
          · exact .inr (.inr h2)
    · have := h.num
      show s.n - max (min x.to s.p.to - max x.fr s.p.fr) 0 = count s.out + (max x.to s.p.to - min x.fr s.p.fr) - count (P ++ [x])
      rw [count_append]
      simp only [count]
      omega

theorem inv_to {L : List Pc} {p : Pc} (hc : Canon L) (hp : p.ok) : ∀ k, k ≤ L.length → Inv (L.take k) (L.drop k) p (layTo L p k)
  | 0, _ => by
    refine ⟨List.Sublist.refl _, hp, Int.le_refl _, Int.le_refl _, (fun x hx => by cases hx), .inl rfl, fun n => Iff.rfl, ?_⟩
    show p.to - p.fr = count [] + (p.to - p.fr) - count []
    simp [count]
  | k + 1, hk => by
    have ih := inv_to hc hp k (by omega)
    have hx : L[k]? = some L[k] := List.getElem?_eq_getElem (by omega)
    have hd : L.drop k = L[k] :: L.drop (k + 1) := List.drop_eq_getElem_cons (by omega)
    have ht : L.take (k + 1) = L.take k ++ [L[k]] := by rw [List.take_add_one, hx]; rfl
    rw [hd] at ih
    have hcc : Canon (L.take k ++ L[k] :: L.drop (k + 1)) := by rw [← hd, List.take_append_drop]; exact hc
    have := inv_step hcc ih
    rw [ht, layTo, hx]
    exact this

theorem lay_all {L : List Pc} {p : Pc} (hc : Canon L) (hp : p.ok) : Canon (layF L p) ∧ (∀ n, mem (layF L p) n ↔ mem L n ∨ (p.fr ≤ n ∧ n < p.to)) ∧ layN L p = count (layF L p) - count L := by
  have h := inv_to hc hp L.length (Nat.le_refl _)
  rw [List.take_length] at h
  refine ⟨ins_canon ⟨hc.sep.sublist h.sub, fun x hx => hc.ok x (h.sub.subset hx)⟩ h.pok h.apart, fun n => ?_, ?_⟩
  · rw [← h.mem n]
    exact ins_mem
  · have := h.num
    have h2 := ins_count (layTo L p L.length).p (layTo L p L.length).out
    show (layTo L p L.length).n = count (ins _ _) - _
    omega

/-- Pieces that rise and don't meet are told by their numbers. -/
theorem canon_ext : ∀ {L M : List Pc}, Canon L → Canon M → (∀ n, mem L n ↔ mem M n) → L = M
  | [], [], _, _, _ => rfl
  | [], y :: M, _, hM, h => absurd ((h y.fr).2 ⟨y, List.mem_cons_self, Int.le_refl _, (hM.ok y List.mem_cons_self).lt⟩) mem_nil
  | x :: L, [], hL, _, h => absurd ((h x.fr).1 ⟨x, List.mem_cons_self, Int.le_refl _, (hL.ok x List.mem_cons_self).lt⟩) mem_nil
  | x :: L, y :: M, hL, hM, h => by
    have hL' := List.pairwise_cons.1 hL.sep
    have hM' := List.pairwise_cons.1 hM.sep
    have hx := hL.ok x List.mem_cons_self
    have hy := hM.ok y List.mem_cons_self
    have hxl := hx.lt
    have hyl := hy.lt
    have low : ∀ {x : Pc} {L : List Pc}, L.Pairwise (fun x y => x.to < y.fr) → (∀ z ∈ L, x.to < z.fr) → x.fr < x.to → ∀ n, mem (x :: L) n → x.fr ≤ n ∧ (n < x.to ∨ (x.to < n ∧ mem L n)) := by
      intro x L _ h2 h3 n ⟨z, hz, hz1, hz2⟩
      rcases List.mem_cons.1 hz with rfl | hz
      · exact ⟨hz1, .inl hz2⟩
      · have := h2 z hz
        exact ⟨by omega, .inr ⟨by omega, z, hz, hz1, hz2⟩⟩
    have lx := low hL'.2 hL'.1 hxl
    have ly := low hM'.2 hM'.1 hyl
    have mx : ∀ n, x.fr ≤ n → n < x.to → mem (x :: L) n := fun n h1 h2 => ⟨x, List.mem_cons_self, h1, h2⟩
    have my : ∀ n, y.fr ≤ n → n < y.to → mem (y :: M) n := fun n h1 h2 => ⟨y, List.mem_cons_self, h1, h2⟩
    have e1 : x.fr = y.fr := by
      have h1 := (ly _ ((h _).1 (mx x.fr (Int.le_refl _) hxl))).1
      have h2 := (lx _ ((h _).2 (my y.fr (Int.le_refl _) hyl))).1
      omega
    have e2 : x.to = y.to := by
      rcases Int.lt_trichotomy x.to y.to with h1 | h1 | h1
      · exfalso
        rcases (lx _ ((h _).2 (my x.to (by omega) h1))).2 with h2 | h2 <;> omega
      · exact h1
      · exfalso
        rcases (ly _ ((h _).1 (mx y.to (by omega) h1))).2 with h2 | h2 <;> omega
    have exy : x = y := by cases x; cases y; simp at e1 e2; simp [e1, e2]
    subst exy
    have : L = M := canon_ext ⟨hL'.2, fun z hz => hL.ok z (List.mem_cons_of_mem _ hz)⟩ ⟨hM'.2, fun z hz => hM.ok z (List.mem_cons_of_mem _ hz)⟩ fun n => by
      constructor
      · intro hn
        obtain ⟨z, hz, h1, h2⟩ := hn
        have h3 := hL'.1 z hz
        rcases (ly n ((h n).1 ⟨z, List.mem_cons_of_mem _ hz, h1, h2⟩)).2 with h4 | h4
        · omega
        · exact h4.2
      · intro hn
        obtain ⟨z, hz, h1, h2⟩ := hn
        have h3 := hM'.1 z hz
        rcases (lx n ((h n).2 ⟨z, List.mem_cons_of_mem _ hz, h1, h2⟩)).2 with h4 | h4
        · omega
        · exact h4.2
    rw [this]
end Go.Proofs.Ytclkaacdbhbigaa.Sp
