/-
  The document's sum modulo a number; its bytes of a number. Conditions: numbers are ones of their kinds.
  The law's home of a flow; how many full slots there are from one on. Conditions: numbers are ones of their kinds.
  Where the full slots are, and how many are looked at. No condition.
  A flow that comes in. No condition beyond the reading.
-/
import Derived.Test.YtcbpdjikdohegaaZb
import Derived.Test.YtcbpdjikdohegaaYg
import Derived.Test.YtcbpdjikdohegaaYi
import Derived.Test.YtcbpdjikdohegaaYq
import Derived.Test.YtcbpdjikdohegaaYt
namespace Go.Proofs.Ytcbpdjikdohegaa.V
open Go.RowKit
attribute [local irreducible] Fn FnN OpVC Ob

theorem runder_fn (lo hi : Int) (L : List Int) (hL : Bytes L) (hl : L.length = 13) (n : Int) (hn : 0 < n ∧ n < 9223372036854775808) : Fn Try.prog 58 [.agg [u64D lo, u64D hi], rowsB L, intD n] fun d => d = intD (underN lo hi L n) := by
  refine fnOf [] Try.func58 rfl (by kernel_rfl) (Nat.le_of_ble_eq_true rfl) ?_
  have hs := sumS_in lo hi (leI (L.take 8)) (leI (L.drop 8) + 13 * 2 ^ 56)
  have hu := underN_in lo hi L hn.1
  have e1 : IntKind.u64.wrap n = n := w64_id ⟨by omega, by omega⟩
  have e2 : (sumS lo hi (leI (L.take 8)) (leI (L.drop 8) + 13 * 2 ^ 56)).tmod n = underN lo hi L n := Int.tmod_eq_emod_of_nonneg hs.1
  have e3 : IntKind.i64.wrap (underN lo hi L n) = underN lo hi L n := IntWalk.i64_in _ (by omega)
  conv => whnf
  rw [show decide (n < 1) = false from decide_eq_false (by omega)]
  conv => whnf
  refine CallVC.pure (rsum_fn lo hi L hL hl) rfl ?_
  rintro _ rfl
  conv => whnf
  rw [e1]
  refine ⟨by omega, ?_⟩
  rw [e2]
  conv => whnf
  rw [e3]

theorem dg (x : Int) (hx : 0 ≤ x ∧ x < 4294967296) : IntKind.u8.wrap (x.tmod 256) = x % 256 ∧ IntKind.u32.wrap (x.tdiv 256) = x / 256 ∧ 0 ≤ x / 256 ∧ x / 256 < 4294967296 := by
  have h1 : x.tmod 256 = x % 256 := Int.tmod_eq_emod_of_nonneg hx.1
  have h2 : x.tdiv 256 = x / 256 := Int.tdiv_eq_ediv_of_nonneg hx.1
  rw [h1, h2, u8_wrap]
  refine ⟨by omega, ?_, by omega, by omega⟩
  unfold IntKind.wrap
  show (x / 256) % 4294967296 = x / 256
  omega

theorem rput4_fn (n : Int) (hn : 0 ≤ n ∧ n < 4294967296) : Fn Try.prog 80 [.v (.int .u32 n), intD 4] fun d => d = rowsB (be4 n) := by
  refine fnOf [] Try.func80 rfl (by kernel_rfl) (Nat.le_of_ble_eq_true rfl) ?_
  obtain ⟨a0, b0, c0, d0⟩ := dg (n) ⟨hn.1, by omega⟩
  obtain ⟨a1, b1, c1, d1⟩ := dg (n / 256) ⟨c0, d0⟩
  obtain ⟨a2, b2, c2, d2⟩ := dg (n / 256 / 256) ⟨c1, d1⟩
  obtain ⟨a3, b3, c3, d3⟩ := dg (n / 256 / 256 / 256) ⟨c2, d2⟩
  conv => whnf
  refine op_makeSlice (n := 4) (β := Int) (enc := byD) (zz := 0) ttH rfl rfl rfl rfl rfl (by decide) rfl ⟨by decide, by decide, by decide⟩ rfl ?_
  conv => whnf
  refine ⟨Nat, fun k => ⟨[(6, intD k), (5, .grow 0), (1, intD 4), (0, .v (.int .u32 (match k with | 0 => n | 1 => n / 256 | 2 => n / 256 / 256 | 3 => n / 256 / 256 / 256 | _ => n / 256 / 256 / 256 / 256)))], [(0, .grow Int 5 1 byD (match k with | 0 => [0, 0, 0, 0] | 1 => [0, 0, 0, n % 256] | 2 => [0, 0, n / 256 % 256, n % 256] | 3 => [0, n / 256 / 256 % 256, n / 256 % 256, n % 256] | _ => [n / 256 / 256 / 256 % 256, n / 256 / 256 % 256, n / 256 % 256, n % 256]))], 1, ([], 0)⟩, fun k => k ≤ 4, fun k => 4 - k, ⟨0, [], [], ?_, Nat.zero_le _⟩, ?_⟩
  · repeat' (first | exact trivial | exact .inl (DLe.refl _) | exact .inl (DLe.nil _ _) | (refine .inr ⟨rfl, _, ?_, rfl⟩; rfl) | exact rfl | exact Nat.zero_le _ | constructor)
  · intro k hk
    rcases (by have : k ≤ 4 := hk; omega : k = 0 ∨ k = 1 ∨ k = 2 ∨ k = 3 ∨ k = 4) with rfl | rfl | rfl | rfl | rfl
    · conv => whnf
      refine ⟨by decide, ?_⟩
      conv => whnf
      refine ⟨rfl, ⟨by decide, by show (3 : Int) < 4; decide⟩, ?_⟩
      conv => whnf
      refine ⟨rfl, by show 3 < 4; decide, fun x hx => ?_⟩
      conv => whnf
      refine ⟨rfl, n % 256, (by show byD _ = byD (IntKind.u8.wrap ((n).tmod 256)); rw [a0]), ?_⟩
      conv => whnf
      refine ⟨by decide, ?_⟩
      conv => whnf
      simp only [b0]
      refine ⟨1, [], [], ?_, by decide, by decide⟩
      repeat' (first | exact trivial | exact .inl (DLe.refl _) | exact .inl (DLe.nil _ _) | (refine .inr ⟨rfl, _, ?_, rfl⟩; rfl) | exact rfl | exact Nat.zero_le _ | constructor)
    · conv => whnf
      refine ⟨by decide, ?_⟩
      conv => whnf
      refine ⟨rfl, ⟨by decide, by show (2 : Int) < 4; decide⟩, ?_⟩
      conv => whnf
      refine ⟨rfl, by show 2 < 4; decide, fun x hx => ?_⟩
      conv => whnf
      refine ⟨rfl, n / 256 % 256, (by show byD _ = byD (IntKind.u8.wrap ((n / 256).tmod 256)); rw [a1]), ?_⟩
      conv => whnf
      refine ⟨by decide, ?_⟩
      conv => whnf
      simp only [b1]
      refine ⟨2, [], [], ?_, by decide, by decide⟩
      repeat' (first | exact trivial | exact .inl (DLe.refl _) | exact .inl (DLe.nil _ _) | (refine .inr ⟨rfl, _, ?_, rfl⟩; rfl) | exact rfl | exact Nat.zero_le _ | constructor)
    · conv => whnf
      refine ⟨by decide, ?_⟩
      conv => whnf
      refine ⟨rfl, ⟨by decide, by show (1 : Int) < 4; decide⟩, ?_⟩
      conv => whnf
      refine ⟨rfl, by show 1 < 4; decide, fun x hx => ?_⟩
      conv => whnf
      refine ⟨rfl, n / 256 / 256 % 256, (by show byD _ = byD (IntKind.u8.wrap ((n / 256 / 256).tmod 256)); rw [a2]), ?_⟩
      conv => whnf
      refine ⟨by decide, ?_⟩
      conv => whnf
      simp only [b2]
      refine ⟨3, [], [], ?_, by decide, by decide⟩
      repeat' (first | exact trivial | exact .inl (DLe.refl _) | exact .inl (DLe.nil _ _) | (refine .inr ⟨rfl, _, ?_, rfl⟩; rfl) | exact rfl | exact Nat.zero_le _ | constructor)
    · conv => whnf
      refine ⟨by decide, ?_⟩
      conv => whnf
      refine ⟨rfl, ⟨by decide, by show (0 : Int) < 4; decide⟩, ?_⟩
      conv => whnf
      refine ⟨rfl, by show 0 < 4; decide, fun x hx => ?_⟩
      conv => whnf
      refine ⟨rfl, n / 256 / 256 / 256 % 256, (by show byD _ = byD (IntKind.u8.wrap ((n / 256 / 256 / 256).tmod 256)); rw [a3]), ?_⟩
      conv => whnf
      refine ⟨by decide, ?_⟩
      conv => whnf
      simp only [b3]
      refine ⟨4, [], [], ?_, by decide, by decide⟩
      repeat' (first | exact trivial | exact .inl (DLe.refl _) | exact .inl (DLe.nil _ _) | (refine .inr ⟨rfl, _, ?_, rfl⟩; rfl) | exact rfl | exact Nat.zero_le _ | constructor)
    · conv => whnf
      show rowsB [n / 256 / 256 / 256 % 256, n / 256 / 256 % 256, n / 256 % 256, n % 256] = rowsB (be4 n)
      unfold be4
      rw [show n / 256 / 256 / 256 = n / 16777216 by omega, show n / 256 / 256 = n / 65536 by omega]

theorem rput2_fn (n : Int) (hn : 0 ≤ n ∧ n < 65536) : Fn Try.prog 80 [.v (.int .u32 n), intD 2] fun d => d = rowsB (be2 n) := by
  refine fnOf [] Try.func80 rfl (by kernel_rfl) (Nat.le_of_ble_eq_true rfl) ?_
  obtain ⟨a0, b0, c0, d0⟩ := dg (n) ⟨hn.1, by omega⟩
  obtain ⟨a1, b1, c1, d1⟩ := dg (n / 256) ⟨c0, d0⟩
  conv => whnf
  refine op_makeSlice (n := 2) (β := Int) (enc := byD) (zz := 0) ttH rfl rfl rfl rfl rfl (by decide) rfl ⟨by decide, by decide, by decide⟩ rfl ?_
  conv => whnf
  refine ⟨Nat, fun k => ⟨[(6, intD k), (5, .grow 0), (1, intD 2), (0, .v (.int .u32 (match k with | 0 => n | 1 => n / 256 | _ => n / 256 / 256)))], [(0, .grow Int 5 1 byD (match k with | 0 => [0, 0] | 1 => [0, n % 256] | _ => [n / 256 % 256, n % 256]))], 1, ([], 0)⟩, fun k => k ≤ 2, fun k => 2 - k, ⟨0, [], [], ?_, Nat.zero_le _⟩, ?_⟩
  · repeat' (first | exact trivial | exact .inl (DLe.refl _) | exact .inl (DLe.nil _ _) | (refine .inr ⟨rfl, _, ?_, rfl⟩; rfl) | exact rfl | exact Nat.zero_le _ | constructor)
  · intro k hk
    rcases (by have : k ≤ 2 := hk; omega : k = 0 ∨ k = 1 ∨ k = 2) with rfl | rfl | rfl
    · conv => whnf
      refine ⟨by decide, ?_⟩
      conv => whnf
      refine ⟨rfl, ⟨by decide, by show (1 : Int) < 2; decide⟩, ?_⟩
      conv => whnf
      refine ⟨rfl, by show 1 < 2; decide, fun x hx => ?_⟩
      conv => whnf
      refine ⟨rfl, n % 256, (by show byD _ = byD (IntKind.u8.wrap ((n).tmod 256)); rw [a0]), ?_⟩
      conv => whnf
      refine ⟨by decide, ?_⟩
      conv => whnf
      simp only [b0]
      refine ⟨1, [], [], ?_, by decide, by decide⟩
      repeat' (first | exact trivial | exact .inl (DLe.refl _) | exact .inl (DLe.nil _ _) | (refine .inr ⟨rfl, _, ?_, rfl⟩; rfl) | exact rfl | exact Nat.zero_le _ | constructor)
    · conv => whnf
      refine ⟨by decide, ?_⟩
      conv => whnf
      refine ⟨rfl, ⟨by decide, by show (0 : Int) < 2; decide⟩, ?_⟩
      conv => whnf
      refine ⟨rfl, by show 0 < 2; decide, fun x hx => ?_⟩
      conv => whnf
      refine ⟨rfl, n / 256 % 256, (by show byD _ = byD (IntKind.u8.wrap ((n / 256).tmod 256)); rw [a1]), ?_⟩
      conv => whnf
      refine ⟨by decide, ?_⟩
      conv => whnf
      simp only [b1]
      refine ⟨2, [], [], ?_, by decide, by decide⟩
      repeat' (first | exact trivial | exact .inl (DLe.refl _) | exact .inl (DLe.nil _ _) | (refine .inr ⟨rfl, _, ?_, rfl⟩; rfl) | exact rfl | exact Nat.zero_le _ | constructor)
    · conv => whnf
      show rowsB [n / 256 % 256, n % 256] = rowsB (be2 n)
      unfold be2
      rfl

theorem radd_fn (A B : List Int) (hA : A.length ≤ 100) (hB : B.length ≤ 100) : Fn Try.prog 79 [rowsB A, rowsB B] fun d => d = rowsB (A ++ B) := by
  refine fnOf [] Try.func79 rfl (by kernel_rfl) (Nat.le_of_ble_eq_true rfl) ?_
  have hl : (A ++ B).length ≤ 200 := by rw [List.length_append]; omega
  conv => whnf
  refine ⟨Int, byD, A, rfl, fun _ => rfl, by omega, (by show _ * 1 ≤ _; omega), rfl, ?_⟩
  conv => whnf
  refine ⟨Int, byD, A ++ B, List.map_append, fun _ => rfl, by omega, (by show _ * 1 ≤ _; omega), rfl, ?_⟩
  conv => whnf

theorem radd_at1 (A B : List Int) (hA : A.length ≤ 100) (hB : B.length ≤ 100) {F : List (Nat × D)} {H : List (Nat × LO)} {G : List Nat × Nat} {K : D → St → Prop} {g : Bool}
    (hK : K (.grow 1) ⟨F, (1, .grow Int 5 1 byD (A ++ B)) :: H, 2, G⟩) : CallVC Try.prog g 79 [rowsB A, rowsB B] ⟨F, H, 1, G⟩ K := by
  refine CallVC.freshTo ttH ebH mxH Try.func79 rfl (pl := []) (by kernel_rfl) (Nat.le_of_ble_eq_true rfl) (by decide) rfl ?_
  have hl : (A ++ B).length ≤ 200 := by rw [List.length_append]; omega
  conv => whnf
  refine ⟨Int, byD, A, rfl, fun _ => rfl, by omega, (by show _ * 1 ≤ _; omega), rfl, ?_⟩
  conv => whnf
  refine ⟨Int, byD, A ++ B, List.map_append, fun _ => rfl, by omega, (by show _ * 1 ≤ _; omega), rfl, ?_⟩
  conv => whnf
  refine ⟨[(1, 3)], [], .grow 1, [(1, .grow Int 5 1 byD (A ++ B))], 2, ?_, rfl, rfl, hK⟩
  repeat' (first | exact trivial | exact .inl (DLe.refl _) | exact .inl (DLe.nil _ _) | (refine .inr ⟨rfl, _, ?_, rfl⟩; rfl) | exact rfl | exact Nat.zero_le _ | constructor)

theorem be4_len (n : Int) : (be4 n).length = 4 := rfl
theorem be2_len (n : Int) : (be2 n).length = 2 := rfl
theorem u32_low {n : Int} (h : 0 ≤ n ∧ n < 65536) : IntKind.u32.wrap n = n := by
  unfold IntKind.wrap
  show n % 4294967296 = n
  omega
theorem rbytes_fn {f : Fl} (h : FlOk f) : Fn Try.prog 59 [.agg (flD f)] fun d => d = rowsB (flB f) := by
  refine fnOf [(1, [0, 1, 3, 4, 2, 5, 6, 7]), (2, [0, 1, 2, 3, 5, 6, 7, 4, 8, 9, 10, 11])] Try.func59 rfl (by kernel_rfl) (Nat.le_of_ble_eq_true rfl) ?_
  have es := u32_low h.sp
  have ed := u32_low h.dp
  have l8 : (be4 f.src ++ be4 f.dst).length = 8 := rfl
  have l4 : (be2 f.sp ++ be2 f.dp).length = 4 := rfl
  have l12 : (be4 f.src ++ be4 f.dst ++ (be2 f.sp ++ be2 f.dp)).length = 12 := rfl
  have l13 : (flB f).length = 13 := rfl
  have l4a := be4_len f.src
  have l4b := be4_len f.dst
  have l2a := be2_len f.sp
  have l2b := be2_len f.dp
  conv => whnf
  refine CallVC.pure (rput4_fn f.src h.src) rfl ?_
  rintro _ rfl
  conv => whnf
  refine CallVC.pure (rput4_fn f.dst h.dst) rfl ?_
  rintro _ rfl
  conv => whnf
  refine CallVC.pure (radd_fn (be4 f.src) (be4 f.dst) (by omega) (by omega)) rfl ?_
  rintro _ rfl
  conv => whnf
  simp only [es, ed]
  refine CallVC.pure (rput2_fn f.sp h.sp) rfl ?_
  rintro _ rfl
  conv => whnf
  refine CallVC.pure (rput2_fn f.dp h.dp) rfl ?_
  rintro _ rfl
  conv => whnf
  refine CallVC.pure (radd_fn (be2 f.sp) (be2 f.dp) (by omega) (by omega)) rfl ?_
  rintro _ rfl
  conv => whnf
  refine radd_at1 (be4 f.src ++ be4 f.dst) (be2 f.sp ++ be2 f.dp) (by omega) (by omega) ?_
  conv => whnf
  (refine ⟨Nat.le_of_ble_eq_true rfl, ?_⟩; conv => whnf)
  refine ⟨Int, byD, flB f, (by simp [flB, List.map_append]), fun _ => rfl, by omega, (by show _ * 1 ≤ _; omega), rfl, ?_⟩
  conv => whnf
end Go.Proofs.Ytcbpdjikdohegaa.V
namespace Go.Proofs.Ytcbpdjikdohegaa.V
open Go.RowKit
attribute [local irreducible] Fn FnN OpVC Ob

theorem lhome_fn (lo hi : Int) {f : Fl} (h : FlOk f) (n : Nat) (hn : 0 < n ∧ n < 9223372036854775808) : Fn Try.prog 15 [.agg [u64D lo, u64D hi], .agg (flD f), intD n] fun d => d = intD (homeN lo hi n f) := by
  refine fnOf [(1, [0, 1, 3, 2, 4, 5])] Try.func15 rfl (by kernel_rfl) (Nat.le_of_ble_eq_true rfl) ?_
  conv => whnf
  refine CallVC.pure (rbytes_fn h) rfl ?_
  rintro _ rfl
  conv => whnf
  refine CallVC.pure (runder_fn lo hi (flB f) (flB_bytes h) rfl n ⟨by omega, by omega⟩) rfl ?_
  rintro _ rfl
  have hu := underN_in lo hi (flB f) (n := n) (by omega)
  have e : ((homeN lo hi n f : Nat) : Int) = underN lo hi (flB f) n := by
    unfold homeN; omega
  conv => whnf
  rw [e]

abbrev bD (b : Bool) : List D := [boolD b]
theorem run_fn (L : List Bool) (hl : 0 < L.length ∧ L.length ≤ 256) (p : Nat) (hp : p < L.length) (r : Nat) (hr : r ≤ L.length) (hall : ∀ i, i < r → L[(p + i) % L.length]? = some true) (hend : r < L.length → L[(p + r) % L.length]? = some false) :
    Fn Try.prog 17 [.rows Bool 1 bD L, intD p] fun d => d = intD r := by
  refine fnOf [] Try.func17 rfl (by kernel_rfl) (Nat.le_of_ble_eq_true rfl) ?_
  conv => whnf
  refine ⟨Nat, fun k => ⟨[(5, intD k), (1, intD p), (0, .rows Bool 1 bD L)], [], 0, ([], 0)⟩, fun k => k ≤ r, fun k => r - k, ⟨0, [], [], ?_, Nat.zero_le _⟩, ?_⟩
  · repeat' (first | exact trivial | exact .inl (DLe.refl _) | exact .inl (DLe.nil _ _) | (refine .inr ⟨rfl, _, ?_, rfl⟩; rfl) | exact rfl | exact Nat.zero_le _ | constructor)
  · intro k hk
    replace hk : k ≤ r := hk
    have ei : (IntKind.i64.wrap ((p : Int) + k)).tmod L.length = (((p + k) % L.length : Nat) : Int) := by
      rw [IntWalk.i64_in _ (by omega), Int.tmod_eq_emod_of_nonneg (by omega)]; rfl
    have hm : (p + k) % L.length < L.length := Nat.mod_lt _ hl.1
    conv => whnf
    cases g1 : decide ((k : Int) < L.length) with
    | true =>
      have hlt : k < L.length := by have := of_decide_eq_true g1; omega
      conv => whnf
      refine ⟨by omega, ?_⟩
      conv => whnf
      refine ⟨rfl, ⟨by simp only [ei]; omega, by simp only [ei]; omega⟩, fun b hb => ?_⟩
      replace hb : L[(p + k) % L.length]? = some b := (congrArg (fun i : Int => L[i.toNat]?) ei).symm.trans hb
      cases b with
      | true =>
        have hkr : k < r := by
          rcases Nat.lt_or_ge k r with h | h
          · exact h
          · obtain rfl : k = r := by omega
            rw [hend hlt] at hb; cases hb
        conv => whnf
        rw [wrap_next (show k < 300 by omega) (by omega)]
        refine ⟨k + 1, [], [], ?_, hkr, by show r - (k + 1) < r - k; omega⟩
        repeat' (first | exact trivial | exact .inl (DLe.refl _) | exact .inl (DLe.nil _ _) | (refine .inr ⟨rfl, _, ?_, rfl⟩; rfl) | exact rfl | exact Nat.zero_le _ | constructor)
      | false =>
        obtain rfl : k = r := by
          rcases Nat.lt_or_ge k r with h | h
          · rw [hall k h] at hb; cases hb
          · omega
        conv => whnf
    | false =>
      have hge : ¬ (k : Int) < L.length := of_decide_eq_false g1
      obtain rfl : k = r := by omega
      conv => whnf
end Go.Proofs.Ytcbpdjikdohegaa.V
namespace Go.Proofs.Ytcbpdjikdohegaa.V

theorem laid_nil (N : Nat) : Laid N [] := ⟨fun _ h => (nomatch h), fun _ h => (nomatch h), List.nodup_nil, fun _ h => (nomatch h)⟩
theorem Laid.add {N : Nat} {A : List (Nat × Nat)} (hA : Laid N A) {a j : Nat} (ha : a < N) (hj : j < N) (hpre : ∀ i, i < j → (a + i) % N ∈ A.map Prod.snd) (hnew : (a + j) % N ∉ A.map Prod.snd) : Laid N ((a, (a + j) % N) :: A) := by
  have hp : (a + j) % N < N := Nat.mod_lt _ (by omega)
  refine ⟨?_, ?_, ?_, ?_⟩
  · intro x hx
    rcases List.mem_cons.1 hx with rfl | h
    · exact ha
    · exact hA.home x h
  · intro x hx
    rcases List.mem_cons.1 hx with rfl | h
    · exact hp
    · exact hA.place x h
  · show ((a + j) % N :: A.map Prod.snd).Nodup
    exact List.nodup_cons.2 ⟨hnew, hA.once⟩
  · intro x hx i hi
    rcases List.mem_cons.1 hx with rfl | h
    · dsimp only at hi
      rw [add_dist ha hj] at hi
      exact List.mem_cons_of_mem _ (hpre i hi)
    · exact List.mem_cons_of_mem _ (hA.way x h i hi)

/-- Slots, as homes and places. -/
def slotsA (h : Fl → Nat) (L : List Sl) : List (Nat × Nat) := ((List.range L.length).filter fun p => (at_ L p).full).map fun p => (h (at_ L p).f, p)
theorem slotsA_snd (h : Fl → Nat) (L : List Sl) : (slotsA h L).map Prod.snd = (List.range L.length).filter fun p => (at_ L p).full := by
  unfold slotsA
  rw [List.map_map]
  exact List.map_id _
theorem slotsA_mem {h : Fl → Nat} {L : List Sl} {p : Nat} : p ∈ (slotsA h L).map Prod.snd ↔ p < L.length ∧ Full L p := by
  rw [slotsA_snd, List.mem_filter, List.mem_range]
theorem range_at (L : List Sl) : (List.range L.length).map (at_ L) = L := by
  apply List.ext_getElem?
  intro i
  rw [List.getElem?_map]
  by_cases hi : i < L.length
  · rw [List.getElem?_range hi, at_eq hi]; rfl
  · rw [List.getElem?_eq_none (by rw [List.length_range]; omega), List.getElem?_eq_none (by omega)]; rfl
theorem slotsA_fst (h : Fl → Nat) (L : List Sl) : (slotsA h L).map Prod.fst = ((ents L).map (·.f)).map h := by
  have e : (L.filter fun x => x.full) = ((List.range L.length).filter fun p => (at_ L p).full).map (at_ L) := by
    have e := List.filter_map (f := at_ L) (p := fun x : Sl => x.full) (l := List.range L.length)
    rw [range_at] at e
    exact e
  unfold slotsA ents
  rw [e, List.map_map, List.map_map, List.map_map]
  rfl
theorem slotsA_laid {h : Fl → Nat} {L : List Sl} (ok : TOk h L) : Laid L.length (slotsA h L) := by
  refine ⟨fun x hx => ?_, fun x hx => ?_, ?_, fun x hx i hi => ?_⟩
  · obtain ⟨p, _, rfl⟩ := List.mem_map.1 hx
    exact ok.home _
  · exact (slotsA_mem.1 (List.mem_map_of_mem (f := Prod.snd) hx)).1
  · rw [slotsA_snd]
    exact List.nodup_range.filter _
  · have h1 := slotsA_mem.1 (List.mem_map_of_mem (f := Prod.snd) hx)
    obtain ⟨p, _, rfl⟩ := List.mem_map.1 hx
    exact slotsA_mem.2 ⟨Nat.mod_lt _ ok.pos, ok.way p h1.1 h1.2 i hi⟩

/-- The law's row: who is full after some flows. -/
structure LRow (h : Fl → Nat) (N : Nat) (T : List Fl) (F : List Bool) : Prop where
  len : F.length = N
  ex : ∃ A, Laid N A ∧ (A.map Prod.fst).Perm (T.map h) ∧ ∀ p, p < N → (F[p]? = some true ↔ p ∈ A.map Prod.snd)
theorem LRow.nil (h : Fl → Nat) (N : Nat) : LRow h N [] (List.replicate N false) := by
  refine ⟨List.length_replicate, [], laid_nil N, .refl _, fun p hp => ?_⟩
  rw [List.getElem?_replicate, if_pos hp]
  simp
theorem LRow.add {h : Fl → Nat} {N : Nat} {T : List Fl} {F : List Bool} (R : LRow h N T F) {f : Fl} {j : Nat} (hh : h f < N) (hj : j < N) (hpre : ∀ i, i < j → F[(h f + i) % N]? = some true) (hnew : F[(h f + j) % N]? = some false) :
    LRow h N (T ++ [f]) (F.set ((h f + j) % N) true) := by
  obtain ⟨hl, A, hA, hp, hm⟩ := R
  have hlt : ∀ i, (h f + i) % N < N := fun i => Nat.mod_lt _ (by omega)
  refine ⟨by rw [List.length_set]; exact hl, (h f, (h f + j) % N) :: A, hA.add hh hj (fun i hi => (hm _ (hlt i)).1 (hpre i hi)) (fun hc => by rw [(hm _ (hlt j)).2 hc] at hnew; cases hnew), ?_, fun p hp' => ?_⟩
  · rw [List.map_append]
    exact (hp.cons (h f)).trans (List.perm_append_comm (l₁ := [h f]))
  · rw [List.getElem?_set]
    by_cases he : (h f + j) % N = p
    · rw [if_pos he, if_pos (by omega), ← he]; simp
    · rw [if_neg he, hm p hp']
      simp only [List.map_cons, List.mem_cons]
      exact ⟨.inr, fun hc => hc.resolve_left fun hc => he hc.symm⟩
/-- How many full ones there are from one on. -/
theorem run_ex (F : List Bool) (hF : 0 < F.length) (a : Nat) : ∃ r, r ≤ F.length ∧ (∀ i, i < r → F[(a + i) % F.length]? = some true) ∧ (r < F.length → F[(a + r) % F.length]? = some false) := by
  have key : ∀ m, m ≤ F.length → (∀ i, i < m → F[(a + i) % F.length]? = some true) ∨ ∃ r, r < m ∧ (∀ i, i < r → F[(a + i) % F.length]? = some true) ∧ F[(a + r) % F.length]? = some false := by
    intro m
    induction m with
    | zero => exact fun _ => .inl fun i hi => absurd hi (Nat.not_lt_zero _)
    | succ m ih =>
      intro hm
      rcases ih (by omega) with h | ⟨r, h1, h2, h3⟩
      · have hlt : (a + m) % F.length < F.length := Nat.mod_lt _ hF
        cases hb : F[(a + m) % F.length] with
        | true =>
          refine .inl fun i hi => ?_
          rcases (by omega : i < m ∨ i = m) with h1 | rfl
          · exact h i h1
          · rw [List.getElem?_eq_getElem hlt, hb]
        | false => exact .inr ⟨m, by omega, h, by rw [List.getElem?_eq_getElem hlt, hb]⟩
      · exact .inr ⟨r, by omega, h2, h3⟩
  rcases key F.length (Nat.le_refl _) with h | ⟨r, h1, h2, h3⟩
  · exact ⟨F.length, Nat.le_refl _, h, fun h => absurd h (Nat.lt_irrefl _)⟩
  · exact ⟨r, by omega, h2, fun _ => h3⟩
theorem LRow.room {h : Fl → Nat} {N : Nat} {T : List Fl} {F : List Bool} (R : LRow h N T F) (hT : T.length < N) {a : Nat} (ha : a < N) : ∃ j, j < N ∧ (∀ i, i < j → F[(a + i) % N]? = some true) ∧ F[(a + j) % N]? = some false := by
  obtain ⟨hl, A, hA, hp, hm⟩ := R
  obtain ⟨r, h1, h2, h3⟩ := run_ex F (by omega) a
  rw [hl] at h1 h2 h3
  rcases (by omega : r < N ∨ r = N) with hr | rfl
  · exact ⟨r, hr, h2, h3 hr⟩
  · exfalso
    have hall : ∀ p, p ∈ List.range r → p ∈ A.map Prod.snd := fun p hp => by
      have hp := List.mem_range.1 hp
      refine (hm p hp).1 ?_
      have := h2 _ (dist_lt (a := a) (p := p) (by omega))
      rwa [dist_add ha hp] at this
    have hn := nodup_len List.nodup_range hall
    have hl2 := hp.length_eq
    rw [List.length_range, List.length_map] at hn
    rw [List.length_map, List.length_map] at hl2
    omega
/-- It doesn't hang on the order: the same are full. -/
theorem LRow.same {h : Fl → Nat} {L : List Sl} {T : List Fl} {F : List Bool} (R : LRow h L.length T F) (ok : TOk h L) (hT : T.Perm ((ents L).map (·.f))) {p : Nat} (hp : p < L.length) : F[p]? = some true ↔ Full L p := by
  obtain ⟨hl, A, hA, hq, hm⟩ := R
  rw [hm p hp, laid_same hA (slotsA_laid ok) (hq.trans (by rw [slotsA_fst]; exact hT.map h)) hp, slotsA_mem]
  exact ⟨fun h => h.2, fun h => ⟨hp, h⟩⟩

/-- Who is there: as many are looked at as full ones lie there, at most. -/
theorem looks_in {h : Fl → Nat} {L : List Sl} {F : List Bool} (ok : TOk h L) (hF : ∀ p, p < L.length → (F[p]? = some true ↔ Full L p)) {p r : Nat} (hp : p < L.length) (hf : Full L p) (hend : r < L.length → F[(h (at_ L p).f + r) % L.length]? = some false) :
    1 ≤ (fnd L (at_ L p).f (h (at_ L p).f) L.length 0).2.1 ∧ (fnd L (at_ L p).f (h (at_ L p).f) L.length 0).2.1 ≤ r := by
  obtain ⟨n, h1, h2, h3, h4⟩ := ok.find_in hp hf
  rw [h1]
  refine ⟨h2, ?_⟩
  show n ≤ r
  rcases Nat.lt_or_ge r n with hr | hr
  · have h5 := (hF _ (Nat.mod_lt _ ok.pos)).2 (h4 r hr)
    rw [hend (by omega)] at h5; cases h5
  · exact hr
theorem looks_not {h : Fl → Nat} {L : List Sl} {F : List Bool} (ok : TOk h L) (hF : ∀ p, p < L.length → (F[p]? = some true ↔ Full L p)) {f : Fl} {p n r : Nat} (hq : fnd L f (h f) L.length 0 = (p, n, false)) (hr : r ≤ L.length) (hall : ∀ i, i < r → F[(h f + i) % L.length]? = some true) (hend : r < L.length → F[(h f + r) % L.length]? = some false) :
    (r < L.length → n = r + 1) ∧ (r = L.length → n = r) := by
  obtain ⟨hp, ⟨h1, j, h2, h3, h4, h5⟩ | ⟨h1, h2⟩⟩ := V.find_not ok.pos hq
  · have hjr : j = r := by
      rcases (by omega : j < r ∨ j = r ∨ r < j) with hc | hc | hc
      · have := (hF _ (Nat.mod_lt _ ok.pos)).1 (hall j hc)
        rw [h4] at h1; exact absurd this h1
      · exact hc
      · have := (hF _ (Nat.mod_lt _ ok.pos)).2 (h5 r hc)
        rw [hend (by omega)] at this; cases this
    omega
  · refine ⟨fun hc => ?_, fun hc => by omega⟩
    have := (hF _ (Nat.mod_lt _ ok.pos)).2 (h2 r hc)
    rw [hend hc] at this; cases this
end Go.Proofs.Ytcbpdjikdohegaa.V
namespace Go.Proofs.Ytcbpdjikdohegaa.V
open Go.ChangeShapes Go.WideShapes Go.ChangeAt Go.RowKit

section
variable {H : Type} {enc : TypeId × Value → H} {W : World}
set_option maxRecDepth 100000 in
theorem flow_read {base : Nat} {v : Value} {d : DataW H} {ps : List MemPlace} (hval : Value.okWide Try.prog W .any base 29 v) (h : DataW.Trod enc Try.prog W 0 (fun _ => true) true 29 v d ps) :
    ∃ f : Fl, Rep (baseCtx W fun b => b < W.heap.size) (.agg (flD f)) v ∧ FlOk f := by
  obtain ⟨cs, rfl, hn⟩ := okWide_struct Try.underlying29 hval
  obtain ⟨fuel, hf⟩ := h
  have hn2 : cs.size = 5 := hn.trans (by kernel_rfl)
  simp only [Value.cells] at hf
  obtain ⟨z, hz⟩ := trod_kinds (d := 3) [.u32, .u32, .u16, .u16, .u8] (by kernel_rfl) hf
  refine ⟨⟨z 0, z 1, z 2, z 3, z 4⟩, .agg (by simpa [flD] using hn2) fun j d u hd hu => ?_, ⟨w_u32 (hz 0 _ rfl).2, w_u32 (hz 1 _ rfl).2, w_u16 (hz 2 _ rfl).2, w_u16 (hz 3 _ rfl).2, w_u8 (hz 4 _ rfl).2⟩⟩
  rw [← Array.getElem?_toList] at hu
  unfold flD at hd
  match j, hd, hu with
  | 0, hd, hu => simp only [List.getElem?_cons_zero, Option.some.injEq] at hd; subst hd; rw [(hz 0 _ rfl).1] at hu; injection hu with hu; subst hu; exact .v
  | 1, hd, hu => simp only [List.getElem?_cons_succ, List.getElem?_cons_zero, Option.some.injEq] at hd; subst hd; rw [(hz 1 _ rfl).1] at hu; injection hu with hu; subst hu; exact .v
  | 2, hd, hu => simp only [List.getElem?_cons_succ, List.getElem?_cons_zero, Option.some.injEq] at hd; subst hd; rw [(hz 2 _ rfl).1] at hu; injection hu with hu; subst hu; exact .v
  | 3, hd, hu => simp only [List.getElem?_cons_succ, List.getElem?_cons_zero, Option.some.injEq] at hd; subst hd; rw [(hz 3 _ rfl).1] at hu; injection hu with hu; subst hu; exact .v
  | 4, hd, hu => simp only [List.getElem?_cons_succ, List.getElem?_cons_zero, Option.some.injEq] at hd; subst hd; rw [(hz 4 _ rfl).1] at hu; injection hu with hu; subst hu; exact .v
  | n + 5, hd, _ => simp at hd
end
end Go.Proofs.Ytcbpdjikdohegaa.V
