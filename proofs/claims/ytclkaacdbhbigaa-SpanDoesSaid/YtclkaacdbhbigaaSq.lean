/-
  Numbers that came: ranges as pieces, pieces laid one behind the other, plainly. No condition.
-/
import Derived.Test.YtclkaacdbhbigaaSp
namespace Go.Proofs.Ytclkaacdbhbigaa.Sp

/-- Some numbers, one behind the other. -/
structure Rg where
  fr : Int
  len : Int
structure Rg.ok (r : Rg) : Prop where
  fr : 0 ≤ r.fr ∧ r.fr ≤ 4294967295
  len : 0 ≤ r.len ∧ r.len ≤ 4294967295
def way (base x : Int) : Int := (x - base) % 4294967296
/-- The pieces of a range whose way from the base is a. -/
def pcsAt (a b : Int) : List Pc :=
  (match decide (a < 2147483648) && decide (a < b) with
    | true => [⟨a, min b 2147483648⟩]
    | false => []) ++
  (match decide (4294967296 < b) with
    | true => [⟨0, min (b - 4294967296) 2147483648⟩]
    | false => [])
def pcs (base : Int) (r : Rg) : List Pc := pcsAt (way base r.fr) (way base r.fr + r.len)
theorem pcsAt_ok {a b : Int} (h : 0 ≤ a) : ∀ p, p ∈ pcsAt a b → p.ok := by
  intro p hp
  unfold pcsAt at hp
  rcases List.mem_append.1 hp with hp | hp
  · split at hp
    · rename_i hh
      simp only [Bool.and_eq_true, decide_eq_true_eq] at hh
      rw [List.mem_singleton.1 hp]
      exact ⟨h, by show a < min b _; omega, by show min b _ ≤ _; omega⟩
    · cases hp
  · split at hp
    · rename_i hh
      have hh := of_decide_eq_true hh
      rw [List.mem_singleton.1 hp]
      exact ⟨Int.le_refl _, by show 0 < min _ _; omega, by show min _ _ ≤ _; omega⟩
    · cases hp
theorem pcs_ok (base : Int) (r : Rg) : ∀ p, p ∈ pcs base r → p.ok := pcsAt_ok (by unfold way; omega)

/-- Pieces laid one behind the other; how many numbers of them are new. -/
def addF (L : List Pc) : List Pc → List Pc
  | [] => L
  | p :: r => addF (layF L p) r
def addN (L : List Pc) : List Pc → Int
  | [] => 0
  | p :: r => layN L p + addN (layF L p) r
theorem addF_append : ∀ (ps qs : List Pc) (L : List Pc), addF L (ps ++ qs) = addF (addF L ps) qs
  | [], _, _ => rfl
  | p :: r, qs, L => addF_append r qs (layF L p)
theorem addN_append : ∀ (ps qs : List Pc) (L : List Pc), addN L (ps ++ qs) = addN L ps + addN (addF L ps) qs
  | [], qs, L => by simp [addN, addF]
  | p :: r, qs, L => by
    show layN L p + addN (layF L p) (r ++ qs) = layN L p + addN (layF L p) r + addN (addF (layF L p) r) qs
    rw [addN_append r qs (layF L p)]
    omega
theorem canon_nil : Canon [] := ⟨List.Pairwise.nil, fun x hx => by cases hx⟩
theorem add_all : ∀ (ps : List Pc) {L : List Pc}, Canon L → (∀ p, p ∈ ps → p.ok) → Canon (addF L ps) ∧ (∀ n, mem (addF L ps) n ↔ mem L n ∨ mem ps n) ∧ addN L ps = count (addF L ps) - count L
  | [], L, hc, _ => ⟨hc, fun n => ⟨.inl, fun h => h.elim id fun h => absurd h mem_nil⟩, by show (0 : Int) = count L - count L; omega⟩
  | p :: r, L, hc, hp => by
    obtain ⟨h1, h2, h3⟩ := lay_all hc (hp p List.mem_cons_self)
    obtain ⟨h4, h5, h6⟩ := add_all r h1 fun q hq => hp q (List.mem_cons_of_mem _ hq)
    refine ⟨h4, fun n => ?_, ?_⟩
    · show mem (addF (layF L p) r) n ↔ _
      rw [h5, h2, show p :: r = [p] ++ r from rfl, mem_append, mem_one, or_assoc]
    · show layN L p + addN (layF L p) r = count (addF (layF L p) r) - count L
      omega
/-- The same pieces, in whichever order and however often, come to the same. -/
theorem add_same {ps qs : List Pc} (hp : ∀ p, p ∈ ps → p.ok) (h : ∀ p, p ∈ ps ↔ p ∈ qs) : addF [] ps = addF [] qs ∧ addN [] ps = addN [] qs ∧ addN [] ps = count (addF [] ps) := by
  obtain ⟨a1, a2, a3⟩ := add_all ps canon_nil hp
  obtain ⟨b1, b2, b3⟩ := add_all qs canon_nil fun q hq => hp q ((h q).2 hq)
  have e : addF [] ps = addF [] qs := canon_ext a1 b1 fun n => by
    rw [a2, b2]
    constructor
    · rintro (h1 | ⟨x, hx, h1⟩)
      · exact .inl h1
      · exact .inr ⟨x, (h x).1 hx, h1⟩
    · rintro (h1 | ⟨x, hx, h1⟩)
      · exact .inl h1
      · exact .inr ⟨x, (h x).2 hx, h1⟩
  have e0 : count [] = 0 := rfl
  exact ⟨e, by rw [a3, b3, e], by rw [a3, e0]; omega⟩

theorem count_le : ∀ {L : List Pc} {a : Int}, Canon L → (∀ x, x ∈ L → a ≤ x.fr) → a ≤ 2147483648 → 0 ≤ count L ∧ count L ≤ 2147483648 - a
  | [], a, _, _, ha => by simp only [count]; omega
  | x :: r, a, hc, hl, _ => by
    have hs := List.pairwise_cons.1 hc.sep
    have hx := hc.ok x List.mem_cons_self
    have h1 := hx.lt
    have h2 := hx.hi
    have h3 := hl x List.mem_cons_self
    have := count_le (L := r) (a := x.to) ⟨hs.2, fun y hy => hc.ok y (List.mem_cons_of_mem _ hy)⟩ (fun y hy => by have := hs.1 y hy; omega) h2
    simp only [count]
    omega
theorem count_bound {L : List Pc} (hc : Canon L) : 0 ≤ count L ∧ count L ≤ 2147483648 := by
  have := count_le (a := 0) hc (fun x hx => (hc.ok x hx).lo) (by decide)
  omega
theorem step_len (s : Lay) (x : Pc) : (step s x).out.length ≤ s.out.length + 1 := by
  unfold step
  split
  · simp
  · show s.out.length ≤ _; omega
theorem layTo_len (L : List Pc) (p : Pc) : ∀ k, (layTo L p k).out.length ≤ k
  | 0 => Nat.le_refl _
  | k + 1 => by
    rw [layTo]
    split
    · have := step_len (layTo L p k) ‹_›; have := layTo_len L p k; omega
    · have := layTo_len L p k; omega
theorem lay_len (L : List Pc) (p : Pc) : (layF L p).length ≤ L.length + 1 := by
  unfold layF
  rw [(ins_perm _ _).length_eq, List.length_append]
  have := layTo_len L p L.length
  simp only [List.length_cons, List.length_nil]
  omega
theorem add_len : ∀ (ps L : List Pc), (addF L ps).length ≤ L.length + ps.length
  | [], L => Nat.le_refl _
  | p :: r, L => by
    have := add_len r (layF L p)
    have := lay_len L p
    show (addF (layF L p) r).length ≤ L.length + (r.length + 1)
    omega
theorem pcs_len (base : Int) (r : Rg) : (pcs base r).length ≤ 2 := by
  unfold pcs pcsAt
  rw [List.length_append]
  split <;> split <;> simp
end Go.Proofs.Ytclkaacdbhbigaa.Sp
