/-
  The law of nets, by value. Conditions: addresses are u32.
-/
import Derived.Test.YtbhmnloklpdmiaaDoorAm
import Derived.Test.YtbhmnloklpdmiaaDoorNets
namespace Go.Proofs.YtbhmnloklpdmiaaDoor.V
open Go.RowKit

theorem fn_still {f : FuncId} {vs : List Value} {v : Value} (hb : hasBody Tryd.prog f) (h : ∀ w : World, Calls Tryd.prog f vs.toArray w fun e w' => e = .returned v ∧ w = w') : Fn Tryd.prog f (vs.map .v) fun d => d = .v v := by
  refine ⟨hb, fun w B args' hB hr => ?_⟩
  have e : args' = vs := by
    apply List.ext_getElem?
    intro i
    have hl : args'.length = vs.length := by rw [hr.1, List.length_map]
    cases hq : vs[i]? with
    | none =>
      have := List.getElem?_eq_none_iff.1 hq
      exact List.getElem?_eq_none (by omega)
    | some x =>
      have hi := (List.getElem?_eq_some_iff.1 hq).1
      obtain ⟨u, hu⟩ : ∃ u, args'[i]? = some u := ⟨args'[i]'(by omega), List.getElem?_eq_getElem _⟩
      have := rep_v (hr.2 i (.v x) u (by rw [List.getElem?_map, hq]; rfl) hu)
      rw [hu, this]
  subst e
  exact (h w).mono fun e w' ⟨h1, h2⟩ => ⟨_, _, rfl, h1, h2 ▸ Under.refl _ _, .v⟩

theorem in_mask (b : Int) : inB (maskI b) 4294967295 b = true := by
  unfold inB
  have hk : 32 - nbits b ≤ 32 := by omega
  rw [maskI_nat]
  generalize 32 - nbits b = k at hk
  have h1 : (4294967295 : Int) = ((4294967295 : Nat) : Int) := rfl
  rw [h1, ← two_pow_int, ← Int.natCast_ediv, ← Int.natCast_ediv]
  have hp : 0 < 2 ^ k := Nat.two_pow_pos k
  have e : (2 : Nat) ^ 32 = 2 ^ (32 - k) * 2 ^ k := by rw [← Nat.pow_add]; congr 1; omega
  have h2 : (2 ^ 32 - 2 ^ k) / 2 ^ k = 2 ^ (32 - k) - 1 := by
    rw [e]
    have : 2 ^ (32 - k) * 2 ^ k - 2 ^ k = (2 ^ (32 - k) - 1) * 2 ^ k := by rw [Nat.sub_mul, Nat.one_mul]
    rw [this, Nat.mul_div_cancel _ hp]
  have h3 : (4294967295 : Nat) / 2 ^ k = 2 ^ (32 - k) - 1 := by
    have e2 : (4294967295 : Nat) = (2 ^ k - 1) + (2 ^ (32 - k) - 1) * 2 ^ k := by
      have h4 : 0 < 2 ^ (32 - k) := Nat.two_pow_pos _
      have h5 : (2 ^ (32 - k) - 1) * 2 ^ k = 2 ^ 32 - 2 ^ k := by rw [Nat.sub_mul, Nat.one_mul, ← e]
      have h6 : 2 ^ k ≤ 2 ^ 32 := Nat.pow_le_pow_right (by decide) hk
      rw [h5]
      have : (2 : Nat) ^ 32 = 4294967296 := by decide
      omega
    rw [e2, Nat.add_mul_div_right _ _ hp, Nat.div_eq_of_lt (by omega)]
    omega
  rw [h2, h3]
  simp
theorem mask_even (b : Int) (h : b < 32) : (maskI b).tmod 2 = 0 := by
  have hb := maskI_bd b
  rw [Int.tmod_eq_emod_of_nonneg hb.1, maskI_nat]
  have hk : 1 ≤ 32 - nbits b ∧ 32 - nbits b ≤ 32 := by unfold nbits; omega
  generalize 32 - nbits b = k at hk
  obtain ⟨j, rfl⟩ : ∃ j, k = j + 1 := ⟨k - 1, by omega⟩
  have h6 : 2 ^ (j + 1) ≤ 2 ^ 32 := Nat.pow_le_pow_right (by decide) hk.2
  rw [Nat.pow_succ] at *
  have : (2 : Nat) ^ 32 = 4294967296 := by decide
  omega

attribute [local irreducible] Fn FnN OpVC
set_option maxHeartbeats 1000000 in
theorem nets_fn (a n b : Int) (ha : 0 ≤ a ∧ a ≤ 4294967295) (hn : 0 ≤ n ∧ n ≤ 4294967295) (hb : -9223372036854775808 ≤ b) : Fn Tryd.prog 6 [u32D a, u32D n, intD b] fun d => d = boolD true := by
  refine fnOf [] Tryd.func6 rfl (by kernel_rfl) (Nat.le_of_ble_eq_true rfl) ?_
  have hm := maskI_bd b
  have h1 := fn_still (vs := [.int .i64 b]) ⟨_, Tryd.func17, rfl⟩ (fun w => mask_any b w)
  have h2 := fn_still (vs := [.int .u32 a, .int .u32 n, .int .i64 b]) ⟨_, Tryd.func18, rfl⟩ (fun w => in_any a n b w ha.1 ha.2 hn.1 hn.2)
  have h3 := fn_still (vs := [.int .u32 a, .int .u32 n, .int .i64 b]) ⟨_, Tryd.func19, rfl⟩ (fun w => rin_any a n b w ha.1 ha.2 hn.1 hn.2)
  have h4 := fn_still (vs := [.int .u32 a]) ⟨_, Tryd.func20, rfl⟩ (fun w => special_any a w ha.1 ha.2)
  have h5 := fn_still (vs := [.int .u32 a]) ⟨_, Tryd.func21, rfl⟩ (fun w => rspecial_any a w ha.1 ha.2)
  have h6 := fn_still (vs := [.int .u32 a, .int .u32 n, .int .i64 b]) ⟨_, Tryd.func22, rfl⟩ (fun w => host_any a n b w ha.1 ha.2 hn.1 hn.2)
  have h7 := fn_still (vs := [.int .u32 a, .int .u32 n, .int .i64 b]) ⟨_, Tryd.func23, rfl⟩ (fun w => rhost_any a n b w ha.1 ha.2 hn.1 hn.2 hb)
  have h8 := fn_still (vs := [.int .u32 (maskI b), .int .u32 4294967295, .int .i64 b]) ⟨_, Tryd.func19, rfl⟩ (fun w => rin_any (maskI b) 4294967295 b w hm.1 hm.2 (by decide) (by decide))
  rw [in_mask] at h8
  have he := mask_even b
  generalize maskI b = mk at *
  generalize inB a n b = qi at *
  generalize specB a = qs at *
  generalize hostB a n b = qh at *
  have beq : ∀ q : Bool, (q == q) = true := fun q => by simp
  conv => whnf
  refine CallVC.pure h1 rfl ?_
  rintro _ rfl
  conv => whnf
  refine CallVC.pure h2 rfl ?_
  rintro _ rfl
  conv => whnf
  refine CallVC.pure h3 rfl ?_
  rintro _ rfl
  conv => whnf
  rw [beq]
  conv => whnf
  refine CallVC.pure h4 rfl ?_
  rintro _ rfl
  conv => whnf
  refine CallVC.pure h5 rfl ?_
  rintro _ rfl
  conv => whnf
  rw [beq]
  conv => whnf
  refine CallVC.pure h6 rfl ?_
  rintro _ rfl
  conv => whnf
  refine CallVC.pure h7 rfl ?_
  rintro _ rfl
  conv => whnf
  rw [beq]
  conv => whnf
  refine CallVC.pure h8 rfl ?_
  rintro _ rfl
  conv => whnf
  cases g : decide ((32 : Int) ≤ b) with
  | true =>
    conv => whnf
    refine CallVC.pure lives_fn rfl ?_
    rintro _ rfl
    conv => whnf
  | false =>
    have he := he (by have := of_decide_eq_false g; omega)
    conv => whnf
    refine ⟨by decide, ?_⟩
    rw [he]
    conv => whnf
    refine CallVC.pure lives_fn rfl ?_
    rintro _ rfl
    conv => whnf
end Go.Proofs.YtbhmnloklpdmiaaDoor.V
