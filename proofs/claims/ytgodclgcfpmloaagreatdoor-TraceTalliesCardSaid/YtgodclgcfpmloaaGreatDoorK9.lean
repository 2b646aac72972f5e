/-
  Texts of addresses read, by value: the program's reading, and the document's text. Conditions: strings.Join answers the row joined.
  Texts of Ethernet addresses, by value: the program's and the document's. Conditions: six bytes.
-/
import Derived.Test.YtgodclgcfpmloaaGreatDoorK3
import Derived.Test.YtgodclgcfpmloaaGreatDoorK5
namespace Go.Proofs.YtgodclgcfpmloaaGreatDoor.V
open Go.RowKit
attribute [local irreducible] Fn FnN OpVC

theorem u32_of (x : Nat) (h : x < 4294967296) : IntKind.u32.wrap ((x : Nat) : Int) = ((x : Nat) : Int) := u32_small (by omega)
theorem i64_of (x : Nat) (h : x < 4294967296) : IntKind.i64.wrap ((x : Nat) : Int) = ((x : Nat) : Int) := IntWalk.i64_in _ (by omega)
theorem number_at (m : Nat) (h : m < 256) {x : Int} (e : x = ((m : Nat) : Int)) : Fn Tryz.prog 35 [.v (.int .i64 x)] fun d => d = strD (dig m) := by subst e; exact number_fn m h

theorem dot_app {x : List Nat} {b : ByteArray} (h : b = strB [46]) : strB x ++ b = strB (x ++ [46]) := by rw [h, strB_append]
set_option maxHeartbeats 1000000 in
theorem rtext_fn (a : Nat) (ha : a < 4294967296) : Fn Tryz.prog 21 [u32D a] fun d => d = strD (txt a) := by
  refine fnOf [] Tryz.func21 rfl (by kernel_rfl) (Nat.le_of_ble_eq_true rfl) ?_
  have q : ∀ d : Nat, 0 < d → IntKind.u32.wrap ((a : Int).tdiv d) = ((a / d : Nat) : Int) := fun d hd => by
    rw [Int.tdiv_eq_ediv_of_nonneg (by omega), ← Int.natCast_ediv]
    exact u32_of _ (by have := Nat.div_le_self a d; omega)
  have m : ∀ x : Nat, ((x : Nat) : Int).tmod 256 = ((x % 256 : Nat) : Int) := fun x => by
    rw [Int.tmod_eq_emod_of_nonneg (by omega)]; omega
  have e3 : IntKind.i64.wrap (IntKind.u32.wrap ((a : Int).tdiv 16777216)) = ((a / 16777216 % 256 : Nat) : Int) := by
    rw [show (16777216 : Int) = ((16777216 : Nat) : Int) from rfl, q _ (by decide), i64_of _ (by omega)]; omega
  have e2 : IntKind.i64.wrap ((IntKind.u32.wrap ((a : Int).tdiv 65536)).tmod 256) = ((a / 65536 % 256 : Nat) : Int) := by
    rw [show (65536 : Int) = ((65536 : Nat) : Int) from rfl, q _ (by decide), m, i64_of _ (by omega)]
  have e1 : IntKind.i64.wrap ((IntKind.u32.wrap ((a : Int).tdiv 256)).tmod 256) = ((a / 256 % 256 : Nat) : Int) := by
    rw [show (IntKind.u32.wrap ((a : Int).tdiv 256)) = ((a / 256 : Nat) : Int) from q 256 (by decide), m, i64_of _ (by omega)]
  have e0 : IntKind.i64.wrap (((a : Nat) : Int).tmod 256) = ((a % 256 : Nat) : Int) := by rw [m, i64_of _ (by omega)]
  have l3 := dig_len (a / 16777216 % 256); have l2 := dig_len (a / 65536 % 256); have l1 := dig_len (a / 256 % 256); have l0 := dig_len (a % 256)
  have ht : txt a = (((((dig (a / 16777216 % 256) ++ [46]) ++ dig (a / 65536 % 256)) ++ [46]) ++ dig (a / 256 % 256)) ++ [46]) ++ dig (a % 256) := by simp [txt, join4]
  rw [ht]
  have f3 := number_at _ (Nat.mod_lt _ (by decide)) e3
  have f2 := number_at _ (Nat.mod_lt _ (by decide)) e2
  have f1 := number_at _ (Nat.mod_lt _ (by decide)) e1
  have f0 := number_at _ (Nat.mod_lt _ (by decide)) e0
  generalize dig (a / 16777216 % 256) = d3 at *
  generalize dig (a / 65536 % 256) = d2 at *
  generalize dig (a / 256 % 256) = d1 at *
  generalize dig (a % 256) = d0 at *
  conv => whnf
  refine ⟨by decide, ?_⟩
  conv => whnf
  refine CallVC.pure f3 rfl ?_
  rintro _ rfl
  conv => whnf
  refine ⟨str_le (b := [46]) (by simp; omega), ?_⟩
  rw [dot_app (b := ⟨#[46]⟩) rfl]
  conv => whnf
  refine ⟨by decide, ?_⟩
  conv => whnf
  refine ⟨by decide, ?_⟩
  conv => whnf
  refine CallVC.pure f2 rfl ?_
  rintro _ rfl
  conv => whnf
  refine ⟨str_le (by simp; omega), ?_⟩
  rw [strB_append]
  conv => whnf
  refine ⟨str_le (b := [46]) (by simp; omega), ?_⟩
  rw [dot_app (b := ⟨#[46]⟩) rfl]
  conv => whnf
  refine ⟨by decide, ?_⟩
  conv => whnf
  refine ⟨by decide, ?_⟩
  conv => whnf
  refine CallVC.pure f1 rfl ?_
  rintro _ rfl
  conv => whnf
  refine ⟨str_le (by simp; omega), ?_⟩
  rw [strB_append]
  conv => whnf
  refine ⟨str_le (b := [46]) (by simp; omega), ?_⟩
  rw [dot_app (b := ⟨#[46]⟩) rfl]
  conv => whnf
  refine ⟨by decide, ?_⟩
  conv => whnf
  refine CallVC.pure f0 rfl ?_
  rintro _ rfl
  conv => whnf
  refine ⟨str_le (by simp; omega), ?_⟩
  rw [strB_append]
  conv => whnf

end Go.Proofs.YtgodclgcfpmloaaGreatDoor.V
namespace Go.Proofs.YtgodclgcfpmloaaGreatDoor.V
open Go.RowKit
attribute [local irreducible] Fn FnN OpVC

theorem bv8_and (x y : Nat) (hx : x < 256) (hy : y < 256) : (BitVec.ofInt 8 (x : Int) &&& BitVec.ofInt 8 (y : Int)).toNat = x &&& y := by
  rw [BitVec.toNat_and, BitVec.toNat_ofInt, BitVec.toNat_ofInt]
  congr 1 <;> omega
theorem u8_low (x : Nat) (hx : x < 256) : IntKind.u8.wrap (((BitVec.ofInt IntKind.u8.bits (x : Int) &&& BitVec.ofInt IntKind.u8.bits 15).toNat : Nat) : Int) = ((x % 16 : Nat) : Int) := by
  have := bv8_and x 15 hx (by decide)
  rw [show (BitVec.ofInt IntKind.u8.bits (x : Int) &&& BitVec.ofInt IntKind.u8.bits 15).toNat = x &&& 15 from this]
  rw [show x &&& 15 = x % 16 from Nat.and_two_pow_sub_one_eq_mod x 4]
  exact u8_small (by omega)
theorem u8_next (n : Nat) (hn : n < 16) : IntKind.u8.wrap ((n : Int) + 1) = ((n + 1 : Nat) : Int) := by rw [u8_small (by omega)]; omega
theorem figs_at : ∀ n, n < 16 → (figs.take (n + 1)).drop n = [hx n] := by decide
theorem fig_slice {n : Nat} (hn : n < 16) {L H : Int} (hL : L = ((n : Nat) : Int)) (hH : H = ((n + 1 : Nat) : Int)) : (0 ≤ L ∧ L ≤ H ∧ H ≤ ((strB figs).size : Int)) ∧ (strB figs).extract L.toNat H.toNat = strB [hx n] := by
  subst hL hH
  refine ⟨⟨by omega, by omega, ?_⟩, ?_⟩
  · rw [strB_size]; show _ ≤ ((16 : Nat) : Int); omega
  · rw [strB_extract, nat_toNat, nat_toNat, figs_at n hn]

theorem figure_fn (n : Nat) (hn : n < 16) : Fn Tryz.prog 36 [u8D n] fun d => d = strD [hx n] := by
  refine fnOf [] Tryz.func36 rfl (by kernel_rfl) (Nat.le_of_ble_eq_true rfl) ?_
  obtain ⟨h1, h2⟩ := fig_slice hn rfl (u8_next n hn)
  conv => whnf
  refine ⟨h1, ?_⟩
  rw [show (⟨#[48, 49, 50, 51, 52, 53, 54, 55, 56, 57, 97, 98, 99, 100, 101, 102]⟩ : ByteArray) = strB figs from rfl, h2]
  conv => whnf

def macD (m : List Nat) : List D := m.map fun (x : Nat) => u8D (x : Int)
theorem join_mac {m : List Nat} (h : MacOk m) : joinN [58] (m.map mtx) = mtxt m := by
  obtain ⟨a, b, c, d, e, f, rfl, _⟩ := h.six
  simp [joinN, mtxt, joinC, mtx, List.intercalate]
theorem figure_at (n : Nat) (hn : n < 16) {x : Int} (e : x = ((n : Nat) : Int)) : Fn Tryz.prog 36 [u8D x] fun d => d = strD [hx n] := by subst e; exact figure_fn n hn
theorem mtxt_len {m : List Nat} (h : MacOk m) : (mtxt m).length = 17 := by
  obtain ⟨a, b, c, d, e, f, rfl, _⟩ := h.six
  rfl

set_option maxHeartbeats 2000000 in
theorem mactext_fn (m : List Nat) (hm : MacOk m) : Fn Tryz.prog 90 [.agg (macD m)] fun d => d = strD (mtxt m) := by
  refine fnOf [] Tryz.func90 rfl (by kernel_rfl) (Nat.le_of_ble_eq_true rfl) ?_
  have hjoin := join_c (m.map mtx) [58] (fun x hx => by
    obtain ⟨y, hy, rfl⟩ := List.mem_map.1 hx
    exact mtx_byt (hm.byt y hy)) (.cons (by decide) .nil) (by rw [List.length_map, hm.len]; decide) (by rw [join_mac hm, mtxt_len hm]; decide)
  rw [join_mac hm] at hjoin
  obtain ⟨a, b, c, d, e, f, rfl, ha, hb, hc, hd, he, hf⟩ := hm.six
  conv => whnf
  refine ⟨Nat, fun k => ⟨[(7, intD k), (6, .agg (macD [a, b, c, d, e, f])), (3, .grow 0)], [(0, .grow (List Nat) 9 1 strE (([a, b, c, d, e, f].take k).map mtx))], 1, ([], 0)⟩, fun k => k ≤ 6, fun k => 6 - k, ⟨0, [(0, 1)], [0], ?_, Nat.zero_le _⟩, ?_⟩
  · repeat' (first | exact trivial | exact .inl (DLe.refl _) | exact .inl (DLe.nil _ _) | (refine .inr ⟨rfl, _, ?_, rfl⟩; rfl) | exact rfl | exact .inl rfl | exact .inr ⟨rfl, rfl, rfl, rfl⟩ | exact Nat.zero_le _ | constructor)
  · intro k hk
    have hk : k ≤ 6 := hk
    rcases (by omega : k = 0 ∨ k = 1 ∨ k = 2 ∨ k = 3 ∨ k = 4 ∨ k = 5 ∨ k = 6) with rfl | rfl | rfl | rfl | rfl | rfl | rfl
    · obtain ⟨g1, g2⟩ := fig_slice (show a / 16 < 16 by omega) (shr_at a 4) ((congrArg (fun z => IntKind.u8.wrap (z + 1)) (shr_at a 4)).trans (u8_next (a / 16) (by omega)))
      obtain ⟨q1, q2⟩ := fig_slice (show a % 16 < 16 by omega) (u8_low a ha) ((congrArg (fun z => IntKind.u8.wrap (z + 1)) (u8_low a ha)).trans (u8_next (a % 16) (by omega)))
      conv => whnf
      refine ⟨by decide, ?_⟩
      conv => whnf
      refine ⟨by decide, ?_⟩
      conv => whnf
      refine ⟨by decide, ?_⟩
      conv => whnf
      refine ⟨g1, ?_⟩
      conv => whnf
      refine ⟨q1, ?_⟩
      conv => whnf
      rw [show (⟨#[48, 49, 50, 51, 52, 53, 54, 55, 56, 57, 97, 98, 99, 100, 101, 102]⟩ : ByteArray).extract ((a : Int).fdiv (2 ^ (min (4 : Int).toNat IntKind.u8.bits))).toNat (IntKind.u8.wrap ((a : Int).fdiv (2 ^ (min (4 : Int).toNat IntKind.u8.bits)) + 1)).toNat = strB [hx (a / 16)] from g2]
      rw [show (⟨#[48, 49, 50, 51, 52, 53, 54, 55, 56, 57, 97, 98, 99, 100, 101, 102]⟩ : ByteArray).extract (IntKind.u8.wrap (((BitVec.ofInt IntKind.u8.bits (a : Int) &&& BitVec.ofInt IntKind.u8.bits 15).toNat : Nat) : Int)).toNat (IntKind.u8.wrap (IntKind.u8.wrap (((BitVec.ofInt IntKind.u8.bits (a : Int) &&& BitVec.ofInt IntKind.u8.bits 15).toNat : Nat) : Int) + 1)).toNat = strB [hx (a % 16)] from q2]
      refine ⟨str_le (a := [hx (a / 16)]) (b := [hx (a % 16)]) (by show 1 + 1 ≤ _; decide), ?_⟩
      rw [strB_append]
      conv => whnf
      (refine ⟨by decide, ?_⟩; conv => whnf)
      refine ⟨List Nat, strE, ([a, b, c, d, e, f].take 0).map mtx ++ [mtx a], (by rw [List.map_append]; rfl), fun _ => rfl, by show 1 + 0 ≤ _; decide, by show (1 + 0) * 16 ≤ _; decide, rfl, ?_⟩
      rw [show ([a, b, c, d, e, f].take 0).map mtx ++ [mtx a] = ([a, b, c, d, e, f].take 1).map mtx from rfl]
      conv => whnf
      refine ⟨1, [(0, 1)], [], ?_, by decide, by decide⟩
      repeat' (first | exact trivial | exact .inl (DLe.refl _) | exact .inl (DLe.nil _ _) | (refine .inr ⟨rfl, _, ?_, rfl⟩; rfl) | exact rfl | exact .inl rfl | exact .inr ⟨rfl, rfl, rfl, rfl⟩ | exact Nat.zero_le _ | constructor)
    · obtain ⟨g1, g2⟩ := fig_slice (show b / 16 < 16 by omega) (shr_at b 4) ((congrArg (fun z => IntKind.u8.wrap (z + 1)) (shr_at b 4)).trans (u8_next (b / 16) (by omega)))
      obtain ⟨q1, q2⟩ := fig_slice (show b % 16 < 16 by omega) (u8_low b hb) ((congrArg (fun z => IntKind.u8.wrap (z + 1)) (u8_low b hb)).trans (u8_next (b % 16) (by omega)))
      conv => whnf
      refine ⟨by decide, ?_⟩
      conv => whnf
      refine ⟨by decide, ?_⟩
      conv => whnf
      refine ⟨by decide, ?_⟩
      conv => whnf
      refine ⟨g1, ?_⟩
      conv => whnf
      refine ⟨q1, ?_⟩
      conv => whnf
      rw [show (⟨#[48, 49, 50, 51, 52, 53, 54, 55, 56, 57, 97, 98, 99, 100, 101, 102]⟩ : ByteArray).extract ((b : Int).fdiv (2 ^ (min (4 : Int).toNat IntKind.u8.bits))).toNat (IntKind.u8.wrap ((b : Int).fdiv (2 ^ (min (4 : Int).toNat IntKind.u8.bits)) + 1)).toNat = strB [hx (b / 16)] from g2]
      rw [show (⟨#[48, 49, 50, 51, 52, 53, 54, 55, 56, 57, 97, 98, 99, 100, 101, 102]⟩ : ByteArray).extract (IntKind.u8.wrap (((BitVec.ofInt IntKind.u8.bits (b : Int) &&& BitVec.ofInt IntKind.u8.bits 15).toNat : Nat) : Int)).toNat (IntKind.u8.wrap (IntKind.u8.wrap (((BitVec.ofInt IntKind.u8.bits (b : Int) &&& BitVec.ofInt IntKind.u8.bits 15).toNat : Nat) : Int) + 1)).toNat = strB [hx (b % 16)] from q2]
      refine ⟨str_le (a := [hx (b / 16)]) (b := [hx (b % 16)]) (by show 1 + 1 ≤ _; decide), ?_⟩
      rw [strB_append]
      conv => whnf
      (refine ⟨by decide, ?_⟩; conv => whnf)
      refine ⟨List Nat, strE, ([a, b, c, d, e, f].take 1).map mtx ++ [mtx b], (by rw [List.map_append]; rfl), fun _ => rfl, by show 1 + 1 ≤ _; decide, by show (1 + 1) * 16 ≤ _; decide, rfl, ?_⟩
      rw [show ([a, b, c, d, e, f].take 1).map mtx ++ [mtx b] = ([a, b, c, d, e, f].take 2).map mtx from rfl]
      conv => whnf
      refine ⟨2, [(0, 1)], [], ?_, by decide, by decide⟩
      repeat' (first | exact trivial | exact .inl (DLe.refl _) | exact .inl (DLe.nil _ _) | (refine .inr ⟨rfl, _, ?_, rfl⟩; rfl) | exact rfl | exact .inl rfl | exact .inr ⟨rfl, rfl, rfl, rfl⟩ | exact Nat.zero_le _ | constructor)
    · obtain ⟨g1, g2⟩ := fig_slice (show c / 16 < 16 by omega) (shr_at c 4) ((congrArg (fun z => IntKind.u8.wrap (z + 1)) (shr_at c 4)).trans (u8_next (c / 16) (by omega)))
      obtain ⟨q1, q2⟩ := fig_slice (show c % 16 < 16 by omega) (u8_low c hc) ((congrArg (fun z => IntKind.u8.wrap (z + 1)) (u8_low c hc)).trans (u8_next (c % 16) (by omega)))
      conv => whnf
      refine ⟨by decide, ?_⟩
      conv => whnf
      refine ⟨by decide, ?_⟩
      conv => whnf
      refine ⟨by decide, ?_⟩
      conv => whnf
      refine ⟨g1, ?_⟩
      conv => whnf
      refine ⟨q1, ?_⟩
      conv => whnf
      rw [show (⟨#[48, 49, 50, 51, 52, 53, 54, 55, 56, 57, 97, 98, 99, 100, 101, 102]⟩ : ByteArray).extract ((c : Int).fdiv (2 ^ (min (4 : Int).toNat IntKind.u8.bits))).toNat (IntKind.u8.wrap ((c : Int).fdiv (2 ^ (min (4 : Int).toNat IntKind.u8.bits)) + 1)).toNat = strB [hx (c / 16)] from g2]
      rw [show (⟨#[48, 49, 50, 51, 52, 53, 54, 55, 56, 57, 97, 98, 99, 100, 101, 102]⟩ : ByteArray).extract (IntKind.u8.wrap (((BitVec.ofInt IntKind.u8.bits (c : Int) &&& BitVec.ofInt IntKind.u8.bits 15).toNat : Nat) : Int)).toNat (IntKind.u8.wrap (IntKind.u8.wrap (((BitVec.ofInt IntKind.u8.bits (c : Int) &&& BitVec.ofInt IntKind.u8.bits 15).toNat : Nat) : Int) + 1)).toNat = strB [hx (c % 16)] from q2]
      refine ⟨str_le (a := [hx (c / 16)]) (b := [hx (c % 16)]) (by show 1 + 1 ≤ _; decide), ?_⟩
      rw [strB_append]
      conv => whnf
      (refine ⟨by decide, ?_⟩; conv => whnf)
      refine ⟨List Nat, strE, ([a, b, c, d, e, f].take 2).map mtx ++ [mtx c], (by rw [List.map_append]; rfl), fun _ => rfl, by show 1 + 2 ≤ _; decide, by show (1 + 2) * 16 ≤ _; decide, rfl, ?_⟩
      rw [show ([a, b, c, d, e, f].take 2).map mtx ++ [mtx c] = ([a, b, c, d, e, f].take 3).map mtx from rfl]
      conv => whnf
      refine ⟨3, [(0, 1)], [], ?_, by decide, by decide⟩
      repeat' (first | exact trivial | exact .inl (DLe.refl _) | exact .inl (DLe.nil _ _) | (refine .inr ⟨rfl, _, ?_, rfl⟩; rfl) | exact rfl | exact .inl rfl | exact .inr ⟨rfl, rfl, rfl, rfl⟩ | exact Nat.zero_le _ | constructor)
    · obtain ⟨g1, g2⟩ := fig_slice (show d / 16 < 16 by omega) (shr_at d 4) ((congrArg (fun z => IntKind.u8.wrap (z + 1)) (shr_at d 4)).trans (u8_next (d / 16) (by omega)))
      obtain ⟨q1, q2⟩ := fig_slice (show d % 16 < 16 by omega) (u8_low d hd) ((congrArg (fun z => IntKind.u8.wrap (z + 1)) (u8_low d hd)).trans (u8_next (d % 16) (by omega)))
      conv => whnf
      refine ⟨by decide, ?_⟩
      conv => whnf
      refine ⟨by decide, ?_⟩
      conv => whnf
      refine ⟨by decide, ?_⟩
      conv => whnf
      refine ⟨g1, ?_⟩
      conv => whnf
      refine ⟨q1, ?_⟩
      conv => whnf
      rw [show (⟨#[48, 49, 50, 51, 52, 53, 54, 55, 56, 57, 97, 98, 99, 100, 101, 102]⟩ : ByteArray).extract ((d : Int).fdiv (2 ^ (min (4 : Int).toNat IntKind.u8.bits))).toNat (IntKind.u8.wrap ((d : Int).fdiv (2 ^ (min (4 : Int).toNat IntKind.u8.bits)) + 1)).toNat = strB [hx (d / 16)] from g2]
      rw [show (⟨#[48, 49, 50, 51, 52, 53, 54, 55, 56, 57, 97, 98, 99, 100, 101, 102]⟩ : ByteArray).extract (IntKind.u8.wrap (((BitVec.ofInt IntKind.u8.bits (d : Int) &&& BitVec.ofInt IntKind.u8.bits 15).toNat : Nat) : Int)).toNat (IntKind.u8.wrap (IntKind.u8.wrap (((BitVec.ofInt IntKind.u8.bits (d : Int) &&& BitVec.ofInt IntKind.u8.bits 15).toNat : Nat) : Int) + 1)).toNat = strB [hx (d % 16)] from q2]
      refine ⟨str_le (a := [hx (d / 16)]) (b := [hx (d % 16)]) (by show 1 + 1 ≤ _; decide), ?_⟩
      rw [strB_append]
      conv => whnf
      (refine ⟨by decide, ?_⟩; conv => whnf)
      refine ⟨List Nat, strE, ([a, b, c, d, e, f].take 3).map mtx ++ [mtx d], (by rw [List.map_append]; rfl), fun _ => rfl, by show 1 + 3 ≤ _; decide, by show (1 + 3) * 16 ≤ _; decide, rfl, ?_⟩
      rw [show ([a, b, c, d, e, f].take 3).map mtx ++ [mtx d] = ([a, b, c, d, e, f].take 4).map mtx from rfl]
      conv => whnf
      refine ⟨4, [(0, 1)], [], ?_, by decide, by decide⟩
      repeat' (first | exact trivial | exact .inl (DLe.refl _) | exact .inl (DLe.nil _ _) | (refine .inr ⟨rfl, _, ?_, rfl⟩; rfl) | exact rfl | exact .inl rfl | exact .inr ⟨rfl, rfl, rfl, rfl⟩ | exact Nat.zero_le _ | constructor)
    · obtain ⟨g1, g2⟩ := fig_slice (show e / 16 < 16 by omega) (shr_at e 4) ((congrArg (fun z => IntKind.u8.wrap (z + 1)) (shr_at e 4)).trans (u8_next (e / 16) (by omega)))
      obtain ⟨q1, q2⟩ := fig_slice (show e % 16 < 16 by omega) (u8_low e he) ((congrArg (fun z => IntKind.u8.wrap (z + 1)) (u8_low e he)).trans (u8_next (e % 16) (by omega)))
      conv => whnf
      refine ⟨by decide, ?_⟩
      conv => whnf
      refine ⟨by decide, ?_⟩
      conv => whnf
      refine ⟨by decide, ?_⟩
      conv => whnf
      refine ⟨g1, ?_⟩
      conv => whnf
      refine ⟨q1, ?_⟩
      conv => whnf
      rw [show (⟨#[48, 49, 50, 51, 52, 53, 54, 55, 56, 57, 97, 98, 99, 100, 101, 102]⟩ : ByteArray).extract ((e : Int).fdiv (2 ^ (min (4 : Int).toNat IntKind.u8.bits))).toNat (IntKind.u8.wrap ((e : Int).fdiv (2 ^ (min (4 : Int).toNat IntKind.u8.bits)) + 1)).toNat = strB [hx (e / 16)] from g2]
      rw [show (⟨#[48, 49, 50, 51, 52, 53, 54, 55, 56, 57, 97, 98, 99, 100, 101, 102]⟩ : ByteArray).extract (IntKind.u8.wrap (((BitVec.ofInt IntKind.u8.bits (e : Int) &&& BitVec.ofInt IntKind.u8.bits 15).toNat : Nat) : Int)).toNat (IntKind.u8.wrap (IntKind.u8.wrap (((BitVec.ofInt IntKind.u8.bits (e : Int) &&& BitVec.ofInt IntKind.u8.bits 15).toNat : Nat) : Int) + 1)).toNat = strB [hx (e % 16)] from q2]
      refine ⟨str_le (a := [hx (e / 16)]) (b := [hx (e % 16)]) (by show 1 + 1 ≤ _; decide), ?_⟩
      rw [strB_append]
      conv => whnf
      (refine ⟨by decide, ?_⟩; conv => whnf)
      refine ⟨List Nat, strE, ([a, b, c, d, e, f].take 4).map mtx ++ [mtx e], (by rw [List.map_append]; rfl), fun _ => rfl, by show 1 + 4 ≤ _; decide, by show (1 + 4) * 16 ≤ _; decide, rfl, ?_⟩
      rw [show ([a, b, c, d, e, f].take 4).map mtx ++ [mtx e] = ([a, b, c, d, e, f].take 5).map mtx from rfl]
      conv => whnf
      refine ⟨5, [(0, 1)], [], ?_, by decide, by decide⟩
      repeat' (first | exact trivial | exact .inl (DLe.refl _) | exact .inl (DLe.nil _ _) | (refine .inr ⟨rfl, _, ?_, rfl⟩; rfl) | exact rfl | exact .inl rfl | exact .inr ⟨rfl, rfl, rfl, rfl⟩ | exact Nat.zero_le _ | constructor)
    · obtain ⟨g1, g2⟩ := fig_slice (show f / 16 < 16 by omega) (shr_at f 4) ((congrArg (fun z => IntKind.u8.wrap (z + 1)) (shr_at f 4)).trans (u8_next (f / 16) (by omega)))
      obtain ⟨q1, q2⟩ := fig_slice (show f % 16 < 16 by omega) (u8_low f hf) ((congrArg (fun z => IntKind.u8.wrap (z + 1)) (u8_low f hf)).trans (u8_next (f % 16) (by omega)))
      conv => whnf
      refine ⟨by decide, ?_⟩
      conv => whnf
      refine ⟨by decide, ?_⟩
      conv => whnf
      refine ⟨by decide, ?_⟩
      conv => whnf
      refine ⟨g1, ?_⟩
      conv => whnf
      refine ⟨q1, ?_⟩
      conv => whnf
      rw [show (⟨#[48, 49, 50, 51, 52, 53, 54, 55, 56, 57, 97, 98, 99, 100, 101, 102]⟩ : ByteArray).extract ((f : Int).fdiv (2 ^ (min (4 : Int).toNat IntKind.u8.bits))).toNat (IntKind.u8.wrap ((f : Int).fdiv (2 ^ (min (4 : Int).toNat IntKind.u8.bits)) + 1)).toNat = strB [hx (f / 16)] from g2]
      rw [show (⟨#[48, 49, 50, 51, 52, 53, 54, 55, 56, 57, 97, 98, 99, 100, 101, 102]⟩ : ByteArray).extract (IntKind.u8.wrap (((BitVec.ofInt IntKind.u8.bits (f : Int) &&& BitVec.ofInt IntKind.u8.bits 15).toNat : Nat) : Int)).toNat (IntKind.u8.wrap (IntKind.u8.wrap (((BitVec.ofInt IntKind.u8.bits (f : Int) &&& BitVec.ofInt IntKind.u8.bits 15).toNat : Nat) : Int) + 1)).toNat = strB [hx (f % 16)] from q2]
      refine ⟨str_le (a := [hx (f / 16)]) (b := [hx (f % 16)]) (by show 1 + 1 ≤ _; decide), ?_⟩
      rw [strB_append]
      conv => whnf
      (refine ⟨by decide, ?_⟩; conv => whnf)
      refine ⟨List Nat, strE, ([a, b, c, d, e, f].take 5).map mtx ++ [mtx f], (by rw [List.map_append]; rfl), fun _ => rfl, by show 1 + 5 ≤ _; decide, by show (1 + 5) * 16 ≤ _; decide, rfl, ?_⟩
      rw [show ([a, b, c, d, e, f].take 5).map mtx ++ [mtx f] = ([a, b, c, d, e, f].take 6).map mtx from rfl]
      conv => whnf
      refine ⟨6, [(0, 1)], [], ?_, by decide, by decide⟩
      repeat' (first | exact trivial | exact .inl (DLe.refl _) | exact .inl (DLe.nil _ _) | (refine .inr ⟨rfl, _, ?_, rfl⟩; rfl) | exact rfl | exact .inl rfl | exact .inr ⟨rfl, rfl, rfl, rfl⟩ | exact Nat.zero_le _ | constructor)
    · conv => whnf
      refine CallVC.look (args0 := [rowsT ([a, b, c, d, e, f].map mtx), strD [58]]) hjoin rfl ?_
      rintro _ rfl
      conv => whnf

theorem u8_quo (x : Nat) (hx : x < 256) : IntKind.u8.wrap ((x : Int).tdiv 16) = ((x / 16 : Nat) : Int) := by
  rw [Int.tdiv_eq_ediv_of_nonneg (by omega), u8_small (by omega)]; omega
theorem u8_rem (x : Nat) : ((x : Nat) : Int).tmod 16 = ((x % 16 : Nat) : Int) := by
  rw [Int.tmod_eq_emod_of_nonneg (by omega)]; omega
theorem colon_app {x : List Nat} {b : ByteArray} (h : b = strB [58]) : strB x ++ b = strB (x ++ [58]) := by rw [h, strB_append]

set_option maxHeartbeats 2000000 in
theorem rmactext_fn (m : List Nat) (hm : MacOk m) : Fn Tryz.prog 22 [.agg (macD m)] fun d => d = strD (mtxt m) := by
  refine fnOf [(7, [0, 1, 2, 3, 4, 7, 8, 9, 10, 5, 6, 11, 12, 13])] Tryz.func22 rfl (by kernel_rfl) (Nat.le_of_ble_eq_true rfl) ?_
  obtain ⟨a, b, c, d, e, f, rfl, ha, hb, hc, hd, he, hf⟩ := hm.six
  conv => whnf
  refine ⟨Nat, fun k => ⟨[(4, intD k), (3, strD (joinC (([a, b, c, d, e, f].take k).map mtx))), (1, .loc 0 0)], [(0, .cells 40 (macD [a, b, c, d, e, f]))], 1, ([], 0)⟩, fun k => k ≤ 6, fun k => 6 - k, ⟨0, [], [], ?_, Nat.zero_le _⟩, ?_⟩
  · repeat' (first | exact trivial | exact .inl (DLe.refl _) | exact .inl (DLe.nil _ _) | (refine .inr ⟨rfl, _, ?_, rfl⟩; rfl) | exact rfl | exact .inl rfl | exact .inr ⟨rfl, rfl, rfl, rfl⟩ | exact Nat.zero_le _ | constructor)
  · intro k hk
    have hk : k ≤ 6 := hk
    rcases (by omega : k = 0 ∨ k = 1 ∨ k = 2 ∨ k = 3 ∨ k = 4 ∨ k = 5 ∨ k = 6) with rfl | rfl | rfl | rfl | rfl | rfl | rfl
    · have f1 := figure_at (a / 16) (by omega) (u8_quo a ha)
      have f2 := figure_at (a % 16) (by omega) (u8_rem a)
      conv => whnf
      refine ⟨by decide, ?_⟩
      conv => whnf
      refine ⟨by decide, ?_⟩
      conv => whnf
      refine ⟨by decide, ?_⟩
      conv => whnf
      refine ⟨by decide, ?_⟩
      conv => whnf
      refine CallVC.pure f1 rfl ?_
      rintro _ rfl
      conv => whnf
      refine ⟨str_le (a := (joinC (([a, b, c, d, e, f].take 0).map mtx))) (b := [hx (a / 16)]) (by show 0 + 1 ≤ _; decide), ?_⟩
      rw [strB_append]
      conv => whnf
      refine CallVC.pure f2 rfl ?_
      rintro _ rfl
      conv => whnf
      refine ⟨str_le (a := (joinC (([a, b, c, d, e, f].take 0).map mtx)) ++ [hx (a / 16)]) (b := [hx (a % 16)]) (by show 1 + 1 ≤ _; decide), ?_⟩
      rw [strB_append]
      conv => whnf
      refine ⟨1, [], [], ?_, by decide, by decide⟩
      repeat' (first | exact trivial | exact .inl (DLe.refl _) | exact .inl (DLe.nil _ _) | (refine .inr ⟨rfl, _, ?_, rfl⟩; rfl) | exact rfl | exact .inl rfl | exact .inr ⟨rfl, rfl, rfl, rfl⟩ | exact Nat.zero_le _ | constructor)
    · have f1 := figure_at (b / 16) (by omega) (u8_quo b hb)
      have f2 := figure_at (b % 16) (by omega) (u8_rem b)
      conv => whnf
      refine ⟨str_le (a := (joinC (([a, b, c, d, e, f].take 1).map mtx))) (b := [58]) (by show 2 + 1 ≤ _; decide), ?_⟩
      rw [colon_app (b := ⟨#[58]⟩) rfl]
      conv => whnf
      refine ⟨by decide, ?_⟩
      conv => whnf
      refine ⟨by decide, ?_⟩
      conv => whnf
      refine ⟨by decide, ?_⟩
      conv => whnf
      refine ⟨by decide, ?_⟩
      conv => whnf
      refine CallVC.pure f1 rfl ?_
      rintro _ rfl
      conv => whnf
      refine ⟨str_le (a := ((joinC (([a, b, c, d, e, f].take 1).map mtx)) ++ [58])) (b := [hx (b / 16)]) (by show 3 + 1 ≤ _; decide), ?_⟩
      rw [strB_append]
      conv => whnf
      refine CallVC.pure f2 rfl ?_
      rintro _ rfl
      conv => whnf
      refine ⟨str_le (a := ((joinC (([a, b, c, d, e, f].take 1).map mtx)) ++ [58]) ++ [hx (b / 16)]) (b := [hx (b % 16)]) (by show 4 + 1 ≤ _; decide), ?_⟩
      rw [strB_append]
      conv => whnf
      refine ⟨2, [], [], ?_, by decide, by decide⟩
      repeat' (first | exact trivial | exact .inl (DLe.refl _) | exact .inl (DLe.nil _ _) | (refine .inr ⟨rfl, _, ?_, rfl⟩; rfl) | exact rfl | exact .inl rfl | exact .inr ⟨rfl, rfl, rfl, rfl⟩ | exact Nat.zero_le _ | constructor)
    · have f1 := figure_at (c / 16) (by omega) (u8_quo c hc)
      have f2 := figure_at (c % 16) (by omega) (u8_rem c)
      conv => whnf
      refine ⟨str_le (a := (joinC (([a, b, c, d, e, f].take 2).map mtx))) (b := [58]) (by show 5 + 1 ≤ _; decide), ?_⟩
      rw [colon_app (b := ⟨#[58]⟩) rfl]
      conv => whnf
      refine ⟨by decide, ?_⟩
      conv => whnf
      refine ⟨by decide, ?_⟩
      conv => whnf
      refine ⟨by decide, ?_⟩
      conv => whnf
      refine ⟨by decide, ?_⟩
      conv => whnf
      refine CallVC.pure f1 rfl ?_
      rintro _ rfl
      conv => whnf
      refine ⟨str_le (a := ((joinC (([a, b, c, d, e, f].take 2).map mtx)) ++ [58])) (b := [hx (c / 16)]) (by show 6 + 1 ≤ _; decide), ?_⟩
      rw [strB_append]
      conv => whnf
      refine CallVC.pure f2 rfl ?_
      rintro _ rfl
      conv => whnf
      refine ⟨str_le (a := ((joinC (([a, b, c, d, e, f].take 2).map mtx)) ++ [58]) ++ [hx (c / 16)]) (b := [hx (c % 16)]) (by show 7 + 1 ≤ _; decide), ?_⟩
      rw [strB_append]
      conv => whnf
      refine ⟨3, [], [], ?_, by decide, by decide⟩
      repeat' (first | exact trivial | exact .inl (DLe.refl _) | exact .inl (DLe.nil _ _) | (refine .inr ⟨rfl, _, ?_, rfl⟩; rfl) | exact rfl | exact .inl rfl | exact .inr ⟨rfl, rfl, rfl, rfl⟩ | exact Nat.zero_le _ | constructor)
    · have f1 := figure_at (d / 16) (by omega) (u8_quo d hd)
      have f2 := figure_at (d % 16) (by omega) (u8_rem d)
      conv => whnf
      refine ⟨str_le (a := (joinC (([a, b, c, d, e, f].take 3).map mtx))) (b := [58]) (by show 8 + 1 ≤ _; decide), ?_⟩
      rw [colon_app (b := ⟨#[58]⟩) rfl]
      conv => whnf
      refine ⟨by decide, ?_⟩
      conv => whnf
      refine ⟨by decide, ?_⟩
      conv => whnf
      refine ⟨by decide, ?_⟩
      conv => whnf
      refine ⟨by decide, ?_⟩
      conv => whnf
      refine CallVC.pure f1 rfl ?_
      rintro _ rfl
      conv => whnf
      refine ⟨str_le (a := ((joinC (([a, b, c, d, e, f].take 3).map mtx)) ++ [58])) (b := [hx (d / 16)]) (by show 9 + 1 ≤ _; decide), ?_⟩
      rw [strB_append]
      conv => whnf
      refine CallVC.pure f2 rfl ?_
      rintro _ rfl
      conv => whnf
      refine ⟨str_le (a := ((joinC (([a, b, c, d, e, f].take 3).map mtx)) ++ [58]) ++ [hx (d / 16)]) (b := [hx (d % 16)]) (by show 10 + 1 ≤ _; decide), ?_⟩
      rw [strB_append]
      conv => whnf
      refine ⟨4, [], [], ?_, by decide, by decide⟩
      repeat' (first | exact trivial | exact .inl (DLe.refl _) | exact .inl (DLe.nil _ _) | (refine .inr ⟨rfl, _, ?_, rfl⟩; rfl) | exact rfl | exact .inl rfl | exact .inr ⟨rfl, rfl, rfl, rfl⟩ | exact Nat.zero_le _ | constructor)
    · have f1 := figure_at (e / 16) (by omega) (u8_quo e he)
      have f2 := figure_at (e % 16) (by omega) (u8_rem e)
      conv => whnf
      refine ⟨str_le (a := (joinC (([a, b, c, d, e, f].take 4).map mtx))) (b := [58]) (by show 11 + 1 ≤ _; decide), ?_⟩
      rw [colon_app (b := ⟨#[58]⟩) rfl]
      conv => whnf
      refine ⟨by decide, ?_⟩
      conv => whnf
      refine ⟨by decide, ?_⟩
      conv => whnf
      refine ⟨by decide, ?_⟩
      conv => whnf
      refine ⟨by decide, ?_⟩
      conv => whnf
      refine CallVC.pure f1 rfl ?_
      rintro _ rfl
      conv => whnf
      refine ⟨str_le (a := ((joinC (([a, b, c, d, e, f].take 4).map mtx)) ++ [58])) (b := [hx (e / 16)]) (by show 12 + 1 ≤ _; decide), ?_⟩
      rw [strB_append]
      conv => whnf
      refine CallVC.pure f2 rfl ?_
      rintro _ rfl
      conv => whnf
      refine ⟨str_le (a := ((joinC (([a, b, c, d, e, f].take 4).map mtx)) ++ [58]) ++ [hx (e / 16)]) (b := [hx (e % 16)]) (by show 13 + 1 ≤ _; decide), ?_⟩
      rw [strB_append]
      conv => whnf
      refine ⟨5, [], [], ?_, by decide, by decide⟩
      repeat' (first | exact trivial | exact .inl (DLe.refl _) | exact .inl (DLe.nil _ _) | (refine .inr ⟨rfl, _, ?_, rfl⟩; rfl) | exact rfl | exact .inl rfl | exact .inr ⟨rfl, rfl, rfl, rfl⟩ | exact Nat.zero_le _ | constructor)
    · have f1 := figure_at (f / 16) (by omega) (u8_quo f hf)
      have f2 := figure_at (f % 16) (by omega) (u8_rem f)
      conv => whnf
      refine ⟨str_le (a := (joinC (([a, b, c, d, e, f].take 5).map mtx))) (b := [58]) (by show 14 + 1 ≤ _; decide), ?_⟩
      rw [colon_app (b := ⟨#[58]⟩) rfl]
      conv => whnf
      refine ⟨by decide, ?_⟩
      conv => whnf
      refine ⟨by decide, ?_⟩
      conv => whnf
      refine ⟨by decide, ?_⟩
      conv => whnf
      refine ⟨by decide, ?_⟩
      conv => whnf
      refine CallVC.pure f1 rfl ?_
      rintro _ rfl
      conv => whnf
      refine ⟨str_le (a := ((joinC (([a, b, c, d, e, f].take 5).map mtx)) ++ [58])) (b := [hx (f / 16)]) (by show 15 + 1 ≤ _; decide), ?_⟩
      rw [strB_append]
      conv => whnf
      refine CallVC.pure f2 rfl ?_
      rintro _ rfl
      conv => whnf
      refine ⟨str_le (a := ((joinC (([a, b, c, d, e, f].take 5).map mtx)) ++ [58]) ++ [hx (f / 16)]) (b := [hx (f % 16)]) (by show 16 + 1 ≤ _; decide), ?_⟩
      rw [strB_append]
      conv => whnf
      refine ⟨6, [], [], ?_, by decide, by decide⟩
      repeat' (first | exact trivial | exact .inl (DLe.refl _) | exact .inl (DLe.nil _ _) | (refine .inr ⟨rfl, _, ?_, rfl⟩; rfl) | exact rfl | exact .inl rfl | exact .inr ⟨rfl, rfl, rfl, rfl⟩ | exact Nat.zero_le _ | constructor)
    · conv => whnf
      rfl
end Go.Proofs.YtgodclgcfpmloaaGreatDoor.V
