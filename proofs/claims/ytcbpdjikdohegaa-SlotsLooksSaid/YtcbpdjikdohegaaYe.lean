/-
  The program's sum of bytes by a key. Conditions: numbers are ones of 64 bits.
-/
import Derived.Test.YtcbpdjikdohegaaYd
import Derived.Test.YtcbpdjikdohegaaTu
import Derived.Test.YtcbpdjikdohegaaVq
namespace Go.Proofs.Ytcbpdjikdohegaa.V
open Go.RowKit
attribute [local irreducible] Fn FnN OpVC Ob

abbrev u64D (n : Int) : D := .v (.int .u64 n)
theorem rotl_fn {x : Int} (hx : U64 x) (k : Nat) (hk : k = 13 ∨ k = 16 ∨ k = 17 ∨ k = 21 ∨ k = 32) : Fn Try.prog 127 [u64D x, intD k] fun d => d = u64D (rotI x k) := by
  refine fnOf [] Try.func127 rfl (by kernel_rfl) (Nat.le_of_ble_eq_true rfl) ?_
  have h := rot_or hx (k := k) (by omega)
  have hm : IntKind.u64.wrap ((BitVec.ofInt IntKind.u64.bits (IntKind.u64.wrap (k : Int)) &&& BitVec.ofInt IntKind.u64.bits 63).toNat : Int) = (k : Int) := by
    rcases hk with rfl | rfl | rfl | rfl | rfl <;> kernel_rfl
  have hs : IntKind.u64.wrap (64 - (k : Int)) = ((64 - k : Nat) : Int) := by rw [IntKind.wrap_u64]; omega
  have e1 : min (k : Int).toNat IntKind.u64.bits = k := by show min (k : Int).toNat 64 = k; omega
  have e2 : min ((64 - k : Nat) : Int).toNat IntKind.u64.bits = 64 - k := by show min _ 64 = 64 - k; omega
  conv => whnf
  rw [hm]
  refine ⟨by omega, ?_⟩
  rw [e1]
  conv => whnf
  rw [hs]
  refine ⟨by omega, ?_⟩
  rw [e2]
  conv => whnf
  exact congrArg u64D h

/-- The four numbers as cells. -/
def s4D (s : S4) : List D := [u64D s.a, u64D s.b, u64D s.c, u64D s.d]
theorem round_ob (s : S4) (hs : s.ok) (n : Nat) (hn : n ≤ 4) : Ob Try.prog 111 154 (s4D s) [intD n] fun d X' => d = .tup [] ∧ X' = s4D (rnds n s) := by
  refine obOf [(3, [0, 1, 2, 3, 4, 6, 7, 8, 9, 5, 10, 11, 12, 13]), (6, [0, 1, 2, 3, 4, 6, 7, 8, 9, 5, 10, 11, 12, 13]), (8, [0, 1, 2, 3, 4, 6, 7, 8, 9, 5, 10, 11, 12, 13]), (10, [0, 1, 2, 3, 4, 6, 7, 8, 9, 5, 10, 11, 12, 13])] Try.func111 rfl (by kernel_rfl) (Nat.le_of_ble_eq_true rfl) ?_
  conv => whnf
  refine ⟨Nat, fun i => ⟨[(5, intD i), (4, intD n), (0, .loc 0 0)], [(0, .cells 154 (s4D (rnds i s)))], 1, ([0], 1)⟩, fun i => i ≤ n, fun i => n - i, ⟨0, [], [], ?_, Nat.zero_le _⟩, ?_⟩
  · repeat' (first | exact trivial | exact .inl (DLe.refl _) | exact .inl (DLe.nil _ _) | (refine .inr ⟨rfl, _, ?_, rfl⟩; rfl) | exact rfl | exact Nat.zero_le _ | constructor)
  · intro i hi
    replace hi : i ≤ n := hi
    have hok := rnds_ok hs i
    obtain ⟨ha, hb, hc, hd⟩ := hok
    have hstep : rnds (i + 1) s = rnd (rnds i s) := rfl
    conv => whnf
    cases g1 : decide ((i : Int) < n) with
    | true =>
      have hlt : i < n := by have := of_decide_eq_true g1; omega
      conv => whnf
      refine CallVC.pure (rotl_fn hb 13 (.inl rfl)) rfl ?_
      rintro _ rfl
      conv => whnf
      refine CallVC.pure (rotl_fn (w64_in _) 32 (by omega)) rfl ?_
      rintro _ rfl
      conv => whnf
      refine CallVC.pure (rotl_fn hd 16 (by omega)) rfl ?_
      rintro _ rfl
      conv => whnf
      refine CallVC.pure (rotl_fn (xorI_in _ _) 21 (by omega)) rfl ?_
      rintro _ rfl
      conv => whnf
      refine CallVC.pure (rotl_fn (xorI_in _ _) 17 (by omega)) rfl ?_
      rintro _ rfl
      conv => whnf
      refine CallVC.pure (rotl_fn (w64_in _) 32 (by omega)) rfl ?_
      rintro _ rfl
      conv => whnf
      rw [show IntKind.i64.wrap ((i : Int) + 1) = ((i + 1 : Nat) : Int) from wrap_next (show i < 100 by omega) (by omega)]
      refine ⟨i + 1, [], [], ?_, hlt, by show n - (i + 1) < n - i; omega⟩
      dsimp only
      rw [hstep]
      repeat' (first | exact trivial | exact .inl (DLe.refl _) | exact .inl (DLe.nil _ _) | (refine .inr ⟨rfl, _, ?_, rfl⟩; rfl) | exact rfl | exact Nat.zero_le _ | constructor)
    | false =>
      have hin : i = n := by have := of_decide_eq_false g1; omega
      conv => whnf
      rw [hin]
      exact ⟨rfl, rfl⟩

theorem take_ob (s : S4) (hs : s.ok) (n : Int) : Ob Try.prog 109 154 (s4D s) [u64D n] fun d X' => d = .tup [] ∧ X' = s4D (s.take n) := by
  refine obOf [] Try.func109 rfl (by kernel_rfl) (Nat.le_of_ble_eq_true rfl) ?_
  conv => whnf
  refine CallVC.ob (round_ob ⟨s.a, s.b, s.c, xorI s.d n⟩ ⟨hs.1, hs.2.1, hs.2.2.1, xorI_in _ _⟩ 2 (by decide)) rfl rfl rfl ?_
  rintro _ _ ⟨rfl, rfl⟩
  conv => whnf
  exact ⟨rfl, rfl⟩

/-- Bytes. -/
abbrev byD (x : Int) : List D := [.v (.int .u8 x)]
abbrev rowsB (L : List Int) : D := .rows Int 1 byD L
def Bytes (L : List Int) : Prop := ∀ x, x ∈ L → 0 ≤ x ∧ x < 256
theorem word_fn (L : List Int) (hL : Bytes L) (hl : L.length ≤ 8) : Fn Try.prog 110 [rowsB L] fun d => d = u64D (leI L) := by
  refine fnOf [] Try.func110 rfl (by kernel_rfl) (Nat.le_of_ble_eq_true rfl) ?_
  conv => whnf
  refine ⟨Nat, fun k => ⟨[(8, intD k), (7, intD L.length), (6, rowsB L), (3, u64D (leI (L.take k)))], [], 0, ([], 0)⟩, fun k => k ≤ L.length, fun k => L.length - k, ⟨0, [], [], ?_, Nat.zero_le _⟩, ?_⟩
  · repeat' (first | exact trivial | exact .inl (DLe.refl _) | exact .inl (DLe.nil _ _) | (refine .inr ⟨rfl, _, ?_, rfl⟩; rfl) | exact rfl | exact Nat.zero_le _ | constructor)
  · intro k hk
    replace hk : k ≤ L.length := hk
    conv => whnf
    cases g1 : decide ((k : Int) < L.length) with
    | true =>
      have hlt : k < L.length := by have := of_decide_eq_true g1; omega
      conv => whnf
      refine ⟨rfl, ⟨by omega, by omega⟩, fun x hx => ?_⟩
      have hxk : L[k]? = some x := by simpa using hx
      obtain ⟨hx0, hx1⟩ := hL x (List.mem_of_getElem? hxk)
      have e8 : IntKind.i64.wrap (8 * (k : Int)) = ((8 * k : Nat) : Int) := by rw [IntWalk.i64_in _ (by omega)]; omega
      have ec : IntKind.u64.wrap x = x := w64_id ⟨by omega, by omega⟩
      have etk : L.take (k + 1) = L.take k ++ [x] := by rw [List.take_add_one, hxk]; rfl
      have hbk : 0 ≤ leI (L.take k) ∧ leI (L.take k) < 256 ^ (L.take k).length := leI_in fun y hy => hL y (List.mem_of_mem_take hy)
      have hlk : (L.take k).length = k := by rw [List.length_take]; omega
      rw [hlk] at hbk
      have hpw : (256 : Int) ^ k = 2 ^ (8 * k) := by rw [Int.pow_mul]; rfl
      have hk7 : k ≤ 7 := by omega
      have h64 : x * 2 ^ (8 * k) < 18446744073709551616 := by
        rcases (by omega : k = 0 ∨ k = 1 ∨ k = 2 ∨ k = 3 ∨ k = 4 ∨ k = 5 ∨ k = 6 ∨ k = 7) with rfl | rfl | rfl | rfl | rfl | rfl | rfl | rfl <;> (simp only [Nat.reduceMul, Int.reducePow]; omega)
      have hb64 : leI (L.take k) < 18446744073709551616 := by
        have h1 := hbk.2
        rcases (by omega : k = 0 ∨ k = 1 ∨ k = 2 ∨ k = 3 ∨ k = 4 ∨ k = 5 ∨ k = 6 ∨ k = 7) with rfl | rfl | rfl | rfl | rfl | rfl | rfl | rfl <;> (simp only [Int.reducePow] at h1; omega)
      have hor := (or_apart (k := 8 * k) hbk.1 hb64 (by rw [← hpw]; exact hbk.2) hx0 h64).1
      have em : min ((8 * k : Nat) : Int).toNat IntKind.u64.bits = 8 * k := by show min _ 64 = _; omega
      conv => whnf
      rw [e8, ec]
      refine ⟨by omega, ?_⟩
      rw [em]
      conv => whnf
      rw [wrap_next (show k < 8 by omega) (by omega)]
      refine ⟨k + 1, [], [], ?_, hlt, by show L.length - (k + 1) < L.length - k; omega⟩
      repeat' (first | exact trivial | exact .inl (DLe.refl _) | exact .inl (DLe.nil _ _) | (refine .inr ⟨rfl, _, ?_, rfl⟩; rfl) | exact rfl | exact Nat.zero_le _ | constructor)
      refine DLe.of_eq (congrArg u64D ?_)
      rw [etk, leI_snoc, hlk, hpw, ← hor]
      have : w64 (x * 2 ^ (8 * k)) = x * 2 ^ (8 * k) := w64_id ⟨Int.mul_nonneg hx0 (Int.le_of_lt (Int.pow_pos (by decide))), h64⟩
      conv => rhs; rw [← this]
      rfl
    | false =>
      have hin : k = L.length := by have := of_decide_eq_false g1; omega
      conv => whnf
      rw [hin, List.take_length]
end Go.Proofs.Ytcbpdjikdohegaa.V
