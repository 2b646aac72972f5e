/-
  Numbers that came: the program's rows and the document's, plainly. No condition.
-/
import Derived.Test.YtclkaacdbhbigaaSs
namespace Go.Proofs.Ytclkaacdbhbigaa.Sp

/-- The program's pieces and the document's bounds are of the same numbers. -/
structure Rel (L : List Pc) (M : Int) (Q : List (Int × Int)) : Prop where
  canon : Canon L
  like : ∀ n, 0 ≤ n → memB L n = has Q (M + n)
  top : ∀ x, x ∈ Q → x.2 ≤ M + 2147483648

theorem memB_top {L : List Pc} (h : Canon L) {n : Int} (hn : 2147483648 ≤ n) : memB L n = false := by
  cases hq : memB L n with
  | false => rfl
  | true =>
    obtain ⟨x, hx, h1, h2⟩ := memB_iff.1 hq
    have := (h.ok x hx).hi
    omega
theorem has_append (Q R : List (Int × Int)) (n : Int) : has (Q ++ R) n = (has Q n || has R n) := List.any_append
theorem rel_new (M : Int) : Rel [] M [] := ⟨canon_nil, fun _ _ => rfl, fun x hx => by cases hx⟩

theorem put_rel {L : List Pc} {M : Int} {Q : List (Int × Int)} {a b : Int} (h : Rel L M Q) (hp : (⟨a, b⟩ : Pc).ok) :
    Rel (layF L ⟨a, b⟩) M (Q ++ [(M + a, M + b)]) ∧ layN L ⟨a, b⟩ = (b - a) - cnt (has Q) (M + a) (b - a).toNat := by
  obtain ⟨c1, c2, c3⟩ := lay_all h.canon hp
  obtain ⟨p1, p2, p3⟩ := hp
  dsimp only at p1 p2 p3 c2
  have hm : ∀ n, memB (layF L ⟨a, b⟩) n = (memB L n || (decide (a ≤ n) && decide (n < b))) := fun n => by
    rw [Bool.eq_iff_iff, memB_iff, c2, ← memB_iff]
    simp
  have hone : ∀ n, has [(M + a, M + b)] n = (decide (M + a ≤ n) && decide (n < M + b)) := fun n => by simp [has]
  refine ⟨⟨c1, fun n hn => ?_, fun x hx => ?_⟩, ?_⟩
  · rw [hm, has_append, h.like n hn, hone]
    have e1 : decide (M + a ≤ M + n) = decide (a ≤ n) := decide_eq_decide.2 ⟨fun h => by omega, fun h => by omega⟩
    have e2 : decide (M + n < M + b) = decide (n < b) := decide_eq_decide.2 ⟨fun h => by omega, fun h => by omega⟩
    rw [e1, e2]
  · rcases List.mem_append.1 hx with hx | hx
    · exact h.top x hx
    · rw [List.mem_singleton.1 hx]
      show M + b ≤ _
      omega
  · obtain ⟨i, hi⟩ : ∃ i : Nat, a = i := ⟨a.toNat, by omega⟩
    obtain ⟨j, hj⟩ : ∃ j : Nat, b = a + j := ⟨(b - a).toNat, by omega⟩
    obtain ⟨m, hmm⟩ : ∃ m : Nat, (2147483648 : Int) = b + m := ⟨(2147483648 - b).toNat, by omega⟩
    have ek : (2147483648 : Nat) = i + (j + m) := by omega
    have bnd : ∀ {L : List Pc}, Canon L → ∀ x, x ∈ L → 0 ≤ x.fr ∧ x.to ≤ 0 + ((2147483648 : Nat) : Int) := fun hc x hx => ⟨(hc.ok x hx).lo, by have := (hc.ok x hx).hi; omega⟩
    have k1 := count_cnt (a := 0) (k := 2147483648) c1 (bnd c1)
    have k2 := count_cnt (a := 0) (k := 2147483648) h.canon (bnd h.canon)
    rw [ek, cnt_add, cnt_add] at k1 k2
    have s1 : cnt (memB (layF L ⟨a, b⟩)) 0 i = cnt (memB L) 0 i := cnt_congr fun n h1 h2 => by
      rw [hm, decide_eq_false (by omega : ¬ a ≤ n)]; simp
    have s2 : cnt (memB (layF L ⟨a, b⟩)) (0 + i) j = j := cnt_all fun n h1 h2 => by
      rw [hm, decide_eq_true (by omega : a ≤ n), decide_eq_true (by omega : n < b)]; simp
    have s3 : cnt (memB (layF L ⟨a, b⟩)) (0 + i + j) m = cnt (memB L) (0 + i + j) m := cnt_congr fun n h1 h2 => by
      rw [hm, decide_eq_false (by omega : ¬ n < b)]; simp
    have s4 : cnt (memB L) (0 + i) j = cnt (has Q) (M + a) j := by
      have : ∀ k : Nat, k ≤ j → cnt (memB L) (0 + i) k = cnt (has Q) (M + a) k := by
        intro k
        induction k with
        | zero => intro _; rfl
        | succ k ih =>
          intro hk
          show cnt (memB L) (0 + i) k + _ = cnt (has Q) (M + a) k + _
          rw [ih (by omega), h.like (0 + i + k) (by omega), show M + (0 + (i : Int) + k) = M + a + k by omega]
      exact this j (Nat.le_refl _)
    have ej : (b - a).toNat = j := by omega
    rw [c3, ej, k1, k2, s1, s2, s3, s4]
    omega

/-- How far all came from the base on. -/
def ready : List Pc → Int
  | [] => 0
  | x :: _ => match decide (0 < x.fr) with
    | true => 0
    | false => x.to
def shift (n : Int) (x : Pc) : Pc := ⟨x.fr - n, x.to - n⟩
def moved (L : List Pc) : List Pc := match decide (ready L = 0) with
  | true => L
  | false => (L.drop 1).map (shift (ready L))
theorem ready_nat {L : List Pc} (h : Canon L) : 0 ≤ ready L ∧ ready L ≤ 2147483648 := by
  unfold ready
  split
  · omega
  · rename_i x r
    have hx := h.ok x List.mem_cons_self
    have := hx.lo; have := hx.lt; have := hx.hi
    split <;> omega
theorem ready_all {L : List Pc} (h : Canon L) : (∀ n, 0 ≤ n → n < ready L → memB L n = true) ∧ memB L (ready L) = false := by
  cases L with
  | nil => exact ⟨fun n h1 h2 => by simp [ready] at h2; omega, rfl⟩
  | cons x r =>
    have hx := h.ok x List.mem_cons_self
    have hs := List.pairwise_cons.1 h.sep
    obtain ⟨h1, h2, h3⟩ := hx
    have low : ∀ n, n ≤ x.to → ¬ mem r n := fun n hn ⟨y, hy, g1, g2⟩ => by have := hs.1 y hy; omega
    cases hq : decide (0 < x.fr) with
    | true =>
      have hq' := of_decide_eq_true hq
      have e : ready (x :: r) = 0 := by unfold ready; simp only [hq]
      rw [e]
      refine ⟨fun n g1 g2 => by omega, ?_⟩
      cases hm : memB (x :: r) 0 with
      | false => rfl
      | true =>
        obtain ⟨y, hy, g1, g2⟩ := memB_iff.1 hm
        rcases List.mem_cons.1 hy with rfl | hy
        · omega
        · exact absurd ⟨y, hy, g1, g2⟩ (low 0 (by omega))
    | false =>
      have hq' := of_decide_eq_false hq
      have e : ready (x :: r) = x.to := by unfold ready; simp only [hq]
      rw [e]
      refine ⟨fun n g1 g2 => memB_iff.2 ⟨x, List.mem_cons_self, by omega, g2⟩, ?_⟩
      cases hm : memB (x :: r) x.to with
      | false => rfl
      | true =>
        obtain ⟨y, hy, g1, g2⟩ := memB_iff.1 hm
        rcases List.mem_cons.1 hy with rfl | hy
        · omega
        · exact absurd ⟨y, hy, g1, g2⟩ (low x.to (Int.le_refl _))
theorem move_rel {L : List Pc} {M : Int} {Q : List (Int × Int)} (h : Rel L M Q) : Rel (moved L) (M + ready L) Q := by
  have hr := ready_nat h.canon
  have htop : ∀ x, x ∈ Q → x.2 ≤ M + ready L + 2147483648 := fun x hx => by have := h.top x hx; omega
  unfold moved
  cases hz : decide (ready L = 0) with
  | true =>
    have hz := of_decide_eq_true hz
    rw [hz, Int.add_zero]
    exact h
  | false =>
    have hz := of_decide_eq_false hz
    cases L with
    | nil => exact absurd rfl hz
    | cons x r =>
      have hs := List.pairwise_cons.1 h.canon.sep
      have hx := h.canon.ok x List.mem_cons_self
      have e : ready (x :: r) = x.to := by
        cases h1 : decide (0 < x.fr) with
        | true => exact absurd (show ready (x :: r) = 0 by unfold ready; simp only [h1]) hz
        | false => unfold ready; simp only [h1]
      have hxt := hx.lt
      have hxl := hx.lo
      rw [e] at htop ⊢
      simp only [List.drop_succ_cons, List.drop_zero]
      refine ⟨⟨?_, fun y hy => ?_⟩, fun n hn => ?_, htop⟩
      · rw [List.pairwise_map]
        exact hs.2.imp fun hh => by show _ - _ < _ - _; omega
      · obtain ⟨z, hz, rfl⟩ := List.mem_map.1 hy
        have h1 := hs.1 z hz
        have h2 := h.canon.ok z (List.mem_cons_of_mem _ hz)
        have := h2.lt; have := h2.hi
        exact ⟨by show 0 ≤ z.fr - _; omega, by show z.fr - _ < z.to - _; omega, by show z.to - _ ≤ _; omega⟩
      · rw [show M + x.to + n = M + (x.to + n) by omega, ← h.like (x.to + n) (by omega), Bool.eq_iff_iff, memB_iff, memB_iff]
        constructor
        · rintro ⟨y, hy, g1, g2⟩
          obtain ⟨z, hz, rfl⟩ := List.mem_map.1 hy
          exact ⟨z, List.mem_cons_of_mem _ hz, by have : z.fr - x.to ≤ n := g1; omega, by have : n < z.to - x.to := g2; omega⟩
        · rintro ⟨y, hy, g1, g2⟩
          rcases List.mem_cons.1 hy with rfl | hy
          · omega
          · exact ⟨shift x.to y, List.mem_map.2 ⟨y, hy, rfl⟩, by show y.fr - x.to ≤ n; omega, by show n < y.to - x.to; omega⟩
end Go.Proofs.Ytclkaacdbhbigaa.Sp
