/-
  Slots: looking, by value. Conditions: numbers are ones of their kinds, not more than 256 places.
-/
import Derived.Test.YtcbpdjikdohegaaGreatK14
import Derived.Test.YtcbpdjikdohegaaGreatK13
import Derived.Test.YtcbpdjikdohegaaGreatVuK
import Derived.Test.YtcbpdjikdohegaaGreatVtK
namespace Go.Proofs.YtcbpdjikdohegaaGreat.V
open Go.RowKit
attribute [local irreducible] Fn FnN OpVC Ob ObS NewS

def slD (x : Sl) : List D := flD x.f ++ [intD x.v, boolD x.full]
abbrev slX (lo hi : Int) (L : List Sl) (n : Nat) : List D := [.rows Sl 7 slD L, u64D lo, u64D hi, intD n]
abbrev slH (lo hi : Int) (L : List Sl) (n : Nat) : List (Nat × LO) := [(0, .cells 82 [.grow 1, u64D lo, u64D hi, intD n]), (1, .grow Sl 91 7 slD L)]
def slF (lo hi : Int) (L : List Sl) (n : Nat) : Fam := fun H nx => H = slH lo hi L n ∧ nx = 2
def homeN (lo hi : Int) (N : Nat) (f : Fl) : Nat := (underN lo hi (flB f) N).toNat
theorem homeN_lt (lo hi : Int) {N : Nat} (hN : 0 < N) (f : Fl) : homeN lo hi N f < N := by
  have := underN_in lo hi (flB f) (n := N) (by omega)
  unfold homeN; omega
structure SlOk (lo hi : Int) (L : List Sl) (n : Nat) : Prop where
  ok : TOk (homeN lo hi L.length) L
  fl : ∀ x, x ∈ L → FlOk x.f
  le : L.length ≤ 256
  cnt : n = (ents L).length

theorem home_fn (lo hi : Int) (L : List Sl) (n : Nat) (hL : 0 < L.length ∧ L.length ≤ 256) {f : Fl} (hf : FlOk f) : FnN Tryz.prog 61 [.fp (slX lo hi L n), .agg (flD f)] fun d => d = intD (homeN lo hi L.length f) := by
  refine fnNOf [(1, [0, 1, 2, 3, 4, 6, 7, 8, 9, 10, 5, 11, 12])] Tryz.func61 rfl (by kernel_rfl) (Nat.le_of_ble_eq_true rfl) ?_
  conv => whnf
  refine CallVC.pure (bytes_fn hf) rfl ?_
  rintro _ rfl
  conv => whnf
  refine CallVC.pure (under_fn lo hi (flB f) (flB_bytes hf) rfl L.length (by omega)) rfl ?_
  rintro _ rfl
  have e : ((homeN lo hi L.length f : Nat) : Int) = underN lo hi (flB f) L.length := by
    have := underN_in lo hi (flB f) (n := L.length) (by omega)
    unfold homeN; omega
  rw [← e]
  conv => whnf
  exact ⟨rfl, rfl⟩

theorem size_fn (lo hi : Int) (L : List Sl) (n : Nat) : FnN Tryz.prog 26 [.fp (slX lo hi L n)] fun d => d = intD L.length := by
  refine fnNOf [] Tryz.func26 rfl (by kernel_rfl) (Nat.le_of_ble_eq_true rfl) ?_
  conv => whnf
  exact ⟨rfl, rfl⟩
theorem len_fn (lo hi : Int) (L : List Sl) (n : Nat) : FnN Tryz.prog 42 [.fp (slX lo hi L n)] fun d => d = intD n := by
  refine fnNOf [] Tryz.func42 rfl (by kernel_rfl) (Nat.le_of_ble_eq_true rfl) ?_
  conv => whnf
  exact ⟨rfl, rfl⟩
theorem far_fn (lo hi : Int) (L : List Sl) (n : Nat) (hL : 0 < L.length ∧ L.length ≤ 256) (a p : Nat) (ha : a < L.length) (hp : p < L.length) : FnN Tryz.prog 64 [.fp (slX lo hi L n), intD a, intD p] fun d => d = intD (dist L.length a p) := by
  refine fnNOf [] Tryz.func64 rfl (by kernel_rfl) (Nat.le_of_ble_eq_true rfl) ?_
  have e1 : IntKind.i64.wrap ((p : Int) - a) = (p : Int) - a := IntWalk.i64_in _ (by omega)
  have e2 : IntKind.i64.wrap ((p : Int) - a + L.length) = ((p + L.length - a : Nat) : Int) := by rw [IntWalk.i64_in _ (by omega)]; omega
  conv => whnf
  rw [e1, e2]
  refine ⟨by omega, ?_⟩
  conv => whnf
  exact ⟨rfl, congrArg intD (Int.ofNat_tmod _ _).symm⟩
theorem eqFlOk : eqOk Tryz.prog 37 [1, 1, 1, 1, 1] = true := by kernel_rfl
theorem eq_fl (a b : Fl) : eqD (flD a) (flD b) = decide (a = b) := by
  obtain ⟨a1, a2, a3, a4, a5⟩ := a
  obtain ⟨b1, b2, b3, b4, b5⟩ := b
  simp only [flD, eqD, Bool.and_true]
  rw [Bool.eq_iff_iff]
  simp [Fl.mk.injEq, and_assoc]

theorem find_fn (lo hi : Int) (L : List Sl) (n : Nat) (hL : 0 < L.length ∧ L.length ≤ 256) {f : Fl} (hf : FlOk f) :
    FnN Tryz.prog 47 [.fp (slX lo hi L n), .agg (flD f)] fun d => d = .tup [intD (fnd L f (homeN lo hi L.length f) L.length 0).1, intD (fnd L f (homeN lo hi L.length f) L.length 0).2.1, boolD (fnd L f (homeN lo hi L.length f) L.length 0).2.2] := by
  refine fnNOf [(12, [0, 1, 2, 3, 4, 5, 6, 7, 8])] Tryz.func47 rfl (by kernel_rfl) (Nat.le_of_ble_eq_true rfl) ?_
  have hh := homeN_lt lo hi hL.1 f
  conv => whnf
  refine CallVC.look (size_fn lo hi L n) rfl ?_
  rintro _ rfl
  conv => whnf
  rw [show decide ((L.length : Int) = 0) = false from decide_eq_false (by omega)]
  conv => whnf
  refine CallVC.look (home_fn lo hi L n hL hf) rfl ?_
  rintro _ rfl
  conv => whnf
  generalize hhe : homeN lo hi L.length f = h at hh
  refine ⟨Nat × Nat, fun i => ⟨[(8, intD (i.1 + 1 : Nat)), (7, intD i.2), (3, .loc 0 0), (0, .fp (slX lo hi L n))], [(0, .cells 37 (flD f))], 1, ([], 0)⟩,
    fun i => (i.1 ≤ L.length ∧ i.2 = (h + i.1) % L.length) ∧ fnd L f h L.length 0 = fnd L f h (L.length - i.1) i.1, fun i => L.length - i.1, ⟨(0, h), [], [], ?_, ⟨Nat.zero_le _, (by show h = (h + 0) % L.length; rw [Nat.add_zero]; exact (Nat.mod_eq_of_lt hh).symm)⟩, (by show fnd L f h L.length 0 = fnd L f h (L.length - 0) 0; rw [Nat.sub_zero])⟩, ?_⟩
  · repeat' (first | exact trivial | exact .inl (DLe.refl _) | exact .inl (DLe.nil _ _) | (refine .inr ⟨rfl, _, ?_, rfl⟩; rfl) | exact rfl | exact Nat.zero_le _ | constructor)
  · rintro ⟨i, p⟩ ⟨⟨hi1, hpe⟩, hi2⟩
    dsimp only at hi1 hpe hi2
    have hp : p < L.length := by rw [hpe]; exact Nat.mod_lt _ hL.1
    conv => whnf
    cases g1 : decide (((i + 1 : Nat) : Int) ≤ L.length) with
    | false =>
      have hin : i = L.length := by have := of_decide_eq_false g1; omega
      subst hin
      rw [Nat.sub_self] at hi2
      have hpz : (h + L.length) % L.length = p := hpe.symm
      rw [hi2, show fnd L f h 0 L.length = ((h + L.length) % L.length, L.length, false) from rfl, hpz]
      conv => whnf
      exact ⟨rfl, rfl⟩
    | true =>
      have hlt : i < L.length := by have := of_decide_eq_true g1; omega
      obtain ⟨x, hx⟩ : ∃ x, L[p]? = some x := ⟨_, List.getElem?_eq_getElem hp⟩
      have hstep : fnd L f h (L.length - i) i = (match x.full with
        | false => (p, i + 1, false)
        | true => match decide (x.f = f) with
          | true => (p, i + 1, true)
          | false => fnd L f h (L.length - (i + 1)) (i + 1)) := by
        rw [show L.length - i = (L.length - (i + 1)) + 1 by omega, fnd, ← hpe, hx]; rfl
      rw [hstep] at hi2
      conv => whnf
      refine ⟨rfl, ⟨by omega, by omega⟩, fun y hy => ?_⟩
      obtain rfl : y = x := by rw [Int.toNat_natCast, hx] at hy; injection hy with hy; exact hy.symm
      conv => whnf
      cases g2 : y.full with
      | false =>
        rw [g2] at hi2
        rw [hi2]
        conv => whnf
        exact ⟨rfl, rfl⟩
      | true =>
        rw [g2] at hi2
        simp only at hi2
        conv => whnf
        refine ⟨rfl, ⟨by omega, by omega⟩, fun z hz => ?_⟩
        obtain rfl : z = y := by rw [Int.toNat_natCast, hx] at hz; injection hz with hz; exact hz.symm
        conv => whnf
        refine ⟨eqFlOk, rfl, ?_⟩
        conv => whnf
        refine Fork.intro (fun hfk => ?_) (fun hfk => ?_)
        · have g3 : decide (z.f = f) = true := (eq_fl z.f f).symm.trans hfk
          rw [g3] at hi2
          rw [hi2]
          conv => whnf
          exact ⟨rfl, rfl⟩
        · have g3 : decide (z.f = f) = false := (eq_fl z.f f).symm.trans hfk
          rw [g3] at hi2
          simp only at hi2
          have e1 : IntKind.i64.wrap ((p : Int) + 1) = ((p + 1 : Nat) : Int) := wrap_next (show p < 256 by omega) (by omega)
          have e2 : ((p + 1 : Nat) : Int).tmod L.length = ((p + 1) % L.length : Nat) := by
            rw [← Int.ofNat_tmod]
          have e3 : (p + 1) % L.length = (h + (i + 1)) % L.length := by
            rw [hpe, Nat.mod_add_mod, Nat.add_assoc]
          generalize (p + 1) % L.length = p2 at e2 e3
          conv => whnf
          rw [e1]
          refine ⟨by omega, ?_⟩
          rw [e2]
          conv => whnf
          rw [wrap_next (show i + 1 < 1000 by omega) (by omega)]
          refine ⟨(i + 1, p2), [], [], ?_, ⟨⟨hlt, e3⟩, hi2⟩, by show L.length - (i + 1) < L.length - i; omega⟩
          repeat' (first | exact trivial | exact .inl (DLe.refl _) | exact .inl (DLe.nil _ _) | (refine .inr ⟨rfl, _, ?_, rfl⟩; rfl) | exact rfl | exact Nat.zero_le _ | constructor)
end Go.Proofs.YtcbpdjikdohegaaGreat.V
