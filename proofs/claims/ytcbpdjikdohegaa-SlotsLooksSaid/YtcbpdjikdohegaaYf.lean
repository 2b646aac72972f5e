/-
  The program's sum of thirteen bytes by a key, and modulo a number; a flow's bytes. Conditions: numbers are ones of their kinds.
-/
import Derived.Test.YtcbpdjikdohegaaYe
namespace Go.Proofs.Ytcbpdjikdohegaa.V
open Go.RowKit
attribute [local irreducible] Fn FnN OpVC Ob

theorem sum_fn (lo hi : Int) (L : List Int) (hL : Bytes L) (hl : L.length = 13) : Fn Try.prog 92 [.agg [u64D lo, u64D hi], rowsB L] fun d => d = u64D (sumS lo hi (leI (L.take 8)) (leI (L.drop 8) + 13 * 2 ^ 56)) := by
  refine fnOf [] Try.func92 rfl (by kernel_rfl) (Nat.le_of_ble_eq_true rfl) ?_
  generalize hw0 : leI (L.take 8) = w0
  have hs0 : S4.ok ⟨xorI lo 8317987319222330741, xorI hi 7237128888997146477, xorI lo 7816392313619706465, xorI hi 8387220255154660723⟩ := ⟨xorI_in _ _, xorI_in _ _, xorI_in _ _, xorI_in _ _⟩
  generalize hsd : (⟨xorI lo 8317987319222330741, xorI hi 7237128888997146477, xorI lo 7816392313619706465, xorI hi 8387220255154660723⟩ : S4) = s0 at hs0
  have hL5 : Bytes (L.drop 8) := fun x hx => hL x (List.mem_of_mem_drop hx)
  have hb5 := leI_in hL5
  rw [List.length_drop, hl] at hb5
  have h5 : leI (L.drop 8) < 1099511627776 := hb5.2
  have e13 : IntKind.u64.wrap (((13 : Nat) : Int).tmod 256) = 13 := by kernel_rfl
  have e56 : IntKind.u64.wrap (13 * 2 ^ (min (56 : Int).toNat IntKind.u64.bits)) = 13 * 2 ^ 56 := by kernel_rfl
  have hor := (or_apart (k := 56) (x := 13) hb5.1 (by omega) (by omega) (by omega) (by omega)).2
  unfold sumS
  rw [hsd]
  conv => whnf
  rw [hl]
  refine ⟨by decide, ?_⟩
  conv => whnf
  rw [e13]
  refine ⟨by decide, ?_⟩
  rw [e56]
  conv => whnf
  refine ⟨Nat, fun k => ⟨[(6, u64D (13 * 2 ^ 56)), (5, .loc 1 0), (1, rowsB (L.drop (8 * k)))], [(1, .cells 154 (s4D (match k with | 0 => s0 | _ + 1 => s0.take w0))), (0, .cells 24 [u64D lo, u64D hi])], 2, ([], 0)⟩, fun k => k ≤ 1, fun k => 1 - k, ⟨0, [], [], ?_, Nat.zero_le _⟩, ?_⟩
  · rw [← hsd]
    repeat' (first | exact trivial | exact .inl (DLe.refl _) | exact .inl (DLe.nil _ _) | (refine .inr ⟨rfl, _, ?_, rfl⟩; rfl) | exact rfl | exact Nat.zero_le _ | constructor)
  · intro k hk
    rcases (by have : k ≤ 1 := hk; omega : k = 0 ∨ k = 1) with rfl | rfl
    · conv => whnf
      rw [show decide (((L.drop (8 * 0)).length : Int) ≥ 8) = true from decide_eq_true (by rw [List.length_drop, hl]; decide)]
      conv => whnf
      refine ⟨rfl, ⟨by decide, by decide, by rw [List.length_drop, hl]; decide⟩, ?_⟩
      conv => whnf
      refine CallVC.pure (word_fn (L.take 8) (fun x hx => hL x (List.mem_of_mem_take hx)) (by rw [List.length_take]; omega)) rfl ?_
      rintro _ rfl
      rw [hw0]
      conv => whnf
      refine CallVC.ob (take_ob s0 hs0 w0) rfl rfl rfl ?_
      rintro _ _ ⟨rfl, rfl⟩
      conv => whnf
      refine ⟨rfl, ⟨by decide, by rw [List.length_drop, hl]; decide, Int.le_refl _⟩, ?_⟩
      conv => whnf
      refine ⟨1, [], [], ?_, Nat.le_refl _, by decide⟩
      repeat' (first | exact trivial | exact .inl (DLe.refl _) | exact .inl (DLe.nil _ _) | (refine .inr ⟨rfl, _, ?_, rfl⟩; rfl) | exact rfl | exact Nat.zero_le _ | constructor)
      refine DLe.rows ?_
      rw [Nat.mul_zero, List.drop_zero, List.take_of_length_le (by rw [Int.toNat_natCast]; exact Nat.le_refl _)]
      rfl
    · conv => whnf
      rw [show decide (((L.drop (8 * 1)).length : Int) ≥ 8) = false from decide_eq_false (by rw [List.length_drop, hl]; decide)]
      conv => whnf
      refine CallVC.pure (word_fn (L.drop 8) hL5 (by rw [List.length_drop, hl]; decide)) rfl ?_
      rintro _ rfl
      conv => whnf
      have eor : IntKind.u64.wrap (((BitVec.ofInt IntKind.u64.bits (13 * 2 ^ 56) ||| BitVec.ofInt IntKind.u64.bits (leI (L.drop 8))).toNat : Nat) : Int) = leI (L.drop 8) + 13 * 2 ^ 56 := hor
      rw [eor]
      have hs1 := take_ok s0 w0
      refine CallVC.ob (take_ob (s0.take w0) hs1 (leI (L.drop 8) + 13 * 2 ^ 56)) rfl rfl rfl ?_
      rintro _ _ ⟨rfl, rfl⟩
      have hs2 := take_ok (s0.take w0) (leI (L.drop 8) + 13 * 2 ^ 56)
      generalize hsd2 : (s0.take w0).take (leI (L.drop 8) + 13 * 2 ^ 56) = s2 at hs2
      conv => whnf
      refine CallVC.ob (round_ob ⟨s2.a, s2.b, xorI s2.c 255, s2.d⟩ ⟨hs2.1, hs2.2.1, xorI_in _ _, hs2.2.2.2⟩ 4 (by decide)) rfl rfl rfl ?_
      rintro _ _ ⟨rfl, rfl⟩
      conv => whnf
      subst hsd2
      rfl

/-- The sum modulo a number. -/
def underN (lo hi : Int) (L : List Int) (n : Int) : Int := sumS lo hi (leI (L.take 8)) (leI (L.drop 8) + 13 * 2 ^ 56) % n
theorem sumS_in (lo hi w0 w1 : Int) : U64 (sumS lo hi w0 w1) := xorI_in _ _
theorem underN_in (lo hi : Int) (L : List Int) {n : Int} (hn : 0 < n) : 0 ≤ underN lo hi L n ∧ underN lo hi L n < n := ⟨Int.emod_nonneg _ (by omega), Int.emod_lt_of_pos _ hn⟩
theorem under_fn (lo hi : Int) (L : List Int) (hL : Bytes L) (hl : L.length = 13) (n : Int) (hn : 0 < n ∧ n < 9223372036854775808) : Fn Try.prog 76 [.agg [u64D lo, u64D hi], rowsB L, intD n] fun d => d = intD (underN lo hi L n) := by
  refine fnOf [] Try.func76 rfl (by kernel_rfl) (Nat.le_of_ble_eq_true rfl) ?_
  have hs := sumS_in lo hi (leI (L.take 8)) (leI (L.drop 8) + 13 * 2 ^ 56)
  have hu := underN_in lo hi L hn.1
  have e1 : IntKind.u64.wrap n = n := w64_id ⟨by omega, by omega⟩
  have e2 : (sumS lo hi (leI (L.take 8)) (leI (L.drop 8) + 13 * 2 ^ 56)).tmod n = underN lo hi L n := Int.tmod_eq_emod_of_nonneg hs.1
  have e3 : IntKind.i64.wrap (underN lo hi L n) = underN lo hi L n := IntWalk.i64_in _ (by omega)
  conv => whnf
  rw [show decide (n < 1) = false from decide_eq_false (by omega)]
  conv => whnf
  refine CallVC.pure (sum_fn lo hi L hL hl) rfl ?_
  rintro _ rfl
  conv => whnf
  rw [e1]
  refine ⟨by omega, ?_⟩
  rw [e2]
  conv => whnf
  rw [e3]

/-! ### A flow as bytes -/
theorem u8_wrap (n : Int) : IntKind.u8.wrap n = n % 256 := by
  unfold IntKind.wrap
  simp only [IntKind.signed, IntKind.bits]
  simp
end Go.Proofs.Ytcbpdjikdohegaa.V
