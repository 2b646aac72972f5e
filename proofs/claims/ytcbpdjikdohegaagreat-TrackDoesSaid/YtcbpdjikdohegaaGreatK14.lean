/-
  A flow as bytes; how two flows stand. Conditions: numbers are ones of their kinds.
  How two flows stand. Conditions: numbers are ones of their kinds.
-/
import Derived.Test.YtcbpdjikdohegaaGreatK12
import Derived.Test.YtcbpdjikdohegaaGreatK13
import Derived.Lib.BytesEntry
import Derived.Laws.Externs
import Derived.Handy
namespace Go.Proofs.YtcbpdjikdohegaaGreat.V
open Go.RowKit
attribute [local irreducible] Fn FnN OpVC Ob

theorem be4_at (x : Int) (hx : 0 ≤ x ∧ x < 4294967296) : IntKind.u8.wrap (x.fdiv (2 ^ (min (24 : Int).toNat IntKind.u32.bits))) = x / 16777216 % 256 ∧ IntKind.u8.wrap (x.fdiv (2 ^ (min (16 : Int).toNat IntKind.u32.bits))) = x / 65536 % 256 ∧
    IntKind.u8.wrap (x.fdiv (2 ^ (min (8 : Int).toNat IntKind.u32.bits))) = x / 256 % 256 ∧ IntKind.u8.wrap x = x % 256 := by
  have e : ∀ k : Nat, x.fdiv (2 ^ k) = x / 2 ^ k := fun k => Int.fdiv_eq_ediv_of_nonneg _ (Int.le_of_lt (Int.pow_pos (by decide)))
  refine ⟨?_, ?_, ?_, u8_wrap x⟩
  · rw [u8_wrap]; show x.fdiv (2 ^ 24) % 256 = _; rw [e]; rfl
  · rw [u8_wrap]; show x.fdiv (2 ^ 16) % 256 = _; rw [e]; rfl
  · rw [u8_wrap]; show x.fdiv (2 ^ 8) % 256 = _; rw [e]; rfl
theorem be2_at (x : Int) (hx : 0 ≤ x ∧ x < 65536) : IntKind.u8.wrap (x.fdiv (2 ^ (min (8 : Int).toNat IntKind.u16.bits))) = x / 256 % 256 ∧ IntKind.u8.wrap x = x % 256 := by
  refine ⟨?_, u8_wrap x⟩
  rw [u8_wrap]; show x.fdiv (2 ^ 8) % 256 = _
  rw [Int.fdiv_eq_ediv_of_nonneg _ (by decide)]; rfl

theorem clone_nil {s : St} {K : D → St → Prop} (h : K (.v (.slice none 0 0)) s) : CallVC Tryz.prog false 89 [.v (.slice none 0 0)] s K := by
  refine goIn [] Tryz.func89 rfl (by kernel_rfl) (Nat.le_of_ble_eq_true rfl) ?_
  conv => whnf
  exact h

theorem put32_fn (a b : Int) (ha : 0 ≤ a ∧ a < 4294967296) (hb : 0 ≤ b ∧ b < 4294967296) : Fn Tryz.prog 80 [.v (.slice none 0 0), .lit 1 [[.v (.int .u32 a)], [.v (.int .u32 b)]]] fun d => d = rowsB (be4 a ++ be4 b) := by
  refine fnOf [] Tryz.func80 rfl (by kernel_rfl) (Nat.le_of_ble_eq_true rfl) ?_
  obtain ⟨a1, a2, a3, a4⟩ := be4_at a ha
  obtain ⟨b1, b2, b3, b4⟩ := be4_at b hb
  conv => whnf
  refine clone_nil ?_
  conv => whnf
  refine ⟨Nat, fun k => ⟨[(12, intD k), (11, intD 2), (10, .lit 1 [[.v (.int .u32 a)], [.v (.int .u32 b)]]), (5, .grow 0)], [(0, .grow Int 5 1 byD (match k with | 0 => [] | 1 => be4 a | _ + 2 => be4 a ++ be4 b))], 1, ([], 0)⟩, fun k => k ≤ 2, fun k => 2 - k, ⟨0, [], [0], ?_, Nat.zero_le _⟩, ?_⟩
  · repeat' (first | exact trivial | exact .inl (DLe.refl _) | exact .inl (DLe.nil _ _) | (refine .inr ⟨rfl, _, ?_, rfl⟩; rfl) | exact rfl | exact Nat.zero_le _ | constructor)
  · intro k hk
    rcases (by have : k ≤ 2 := hk; omega : k = 0 ∨ k = 1 ∨ k = 2) with rfl | rfl | rfl
    · conv => whnf
      refine ⟨rfl, ?_⟩
      conv => whnf
      refine ⟨by decide, ?_⟩
      conv => whnf
      refine ⟨by decide, ?_⟩
      conv => whnf
      refine ⟨by decide, ?_⟩
      conv => whnf
      rw [a1, a2, a3, a4]
      (refine ⟨Nat.le_of_ble_eq_true rfl, ?_⟩; conv => whnf)
      refine ⟨Int, byD, be4 a, rfl, fun _ => rfl, by simp [be4], by simp [be4], rfl, ?_⟩
      conv => whnf
      refine ⟨1, [(0, 1)], [], ?_, by decide, by decide⟩
      repeat' (first | exact trivial | exact .inl (DLe.refl _) | exact .inl (DLe.nil _ _) | (refine .inr ⟨rfl, _, ?_, rfl⟩; rfl) | exact rfl | exact Nat.zero_le _ | constructor)
    · conv => whnf
      refine ⟨rfl, ?_⟩
      conv => whnf
      refine ⟨by decide, ?_⟩
      conv => whnf
      refine ⟨by decide, ?_⟩
      conv => whnf
      refine ⟨by decide, ?_⟩
      conv => whnf
      rw [b1, b2, b3, b4]
      (refine ⟨Nat.le_of_ble_eq_true rfl, ?_⟩; conv => whnf)
      refine ⟨Int, byD, be4 a ++ be4 b, rfl, fun _ => rfl, by simp [be4], by simp [be4], rfl, ?_⟩
      conv => whnf
      refine ⟨2, [(0, 1)], [], ?_, by decide, by decide⟩
      repeat' (first | exact trivial | exact .inl (DLe.refl _) | exact .inl (DLe.nil _ _) | (refine .inr ⟨rfl, _, ?_, rfl⟩; rfl) | exact rfl | exact Nat.zero_le _ | constructor)
    · conv => whnf

theorem put16_at1 (L : List Int) (hl : L.length = 8) (a b : Int) (ha : 0 ≤ a ∧ a < 65536) (hb : 0 ≤ b ∧ b < 65536) {F : List (Nat × D)} {H : List (Nat × LO)} {G : List Nat × Nat} {K : D → St → Prop} {g : Bool}
    (hK : K (.grow 1) ⟨F, (1, .grow Int 5 1 byD (L ++ be2 a ++ be2 b)) :: H, 2, G⟩) : CallVC Tryz.prog g 79 [rowsB L, .lit 1 [[.v (.int .u16 a)], [.v (.int .u16 b)]]] ⟨F, H, 1, G⟩ K := by
  refine CallVC.freshTo ttH ebH mxH Tryz.func79 rfl (pl := []) (by kernel_rfl) (Nat.le_of_ble_eq_true rfl) (by decide) rfl ?_
  obtain ⟨a1, a2⟩ := be2_at a ha
  obtain ⟨b1, b2⟩ := be2_at b hb
  have la : (L ++ be2 a).length = 10 := by simp [be2, hl]
  have lb : (L ++ be2 a ++ be2 b).length = 12 := by simp [be2, hl]
  conv => whnf
  refine goIn [] Tryz.func89 rfl (by kernel_rfl) (Nat.le_of_ble_eq_true rfl) ?_
  conv => whnf
  intro g hg
  cases g with
  | true => rw [hg rfl] at hl; cases hl
  | false =>
  conv => whnf
  refine ⟨Int, byD, L, rfl, fun _ => rfl, by omega, (by show _ * 1 ≤ _; omega), rfl, ?_⟩
  conv => whnf
  refine ⟨Nat, fun k => ⟨[(12, intD k), (11, intD 2), (10, .lit 1 [[.v (.int .u16 a)], [.v (.int .u16 b)]]), (5, .grow 1)], [(1, .grow Int 5 1 byD (match k with | 0 => L | 1 => L ++ be2 a | _ + 2 => L ++ be2 a ++ be2 b))], 2, ([], 0)⟩, fun k => k ≤ 2, fun k => 2 - k, ⟨0, [(1, 2)], [], ?_, Nat.zero_le _⟩, ?_⟩
  · repeat' (first | exact trivial | exact .inl (DLe.refl _) | exact .inl (DLe.nil _ _) | (refine .inr ⟨rfl, _, ?_, rfl⟩; rfl) | exact rfl | exact Nat.zero_le _ | constructor)
  · intro k hk
    rcases (by have : k ≤ 2 := hk; omega : k = 0 ∨ k = 1 ∨ k = 2) with rfl | rfl | rfl
    · conv => whnf
      refine ⟨rfl, ?_⟩
      conv => whnf
      refine ⟨by decide, ?_⟩
      conv => whnf
      rw [a1, a2]
      (refine ⟨Nat.le_of_ble_eq_true rfl, ?_⟩; conv => whnf)
      refine ⟨Int, byD, L ++ be2 a, (by rw [List.map_append]; rfl), fun _ => rfl, by omega, (by show _ * 1 ≤ _; omega), rfl, ?_⟩
      conv => whnf
      refine ⟨1, [(1, 2)], [], ?_, by decide, by decide⟩
      repeat' (first | exact trivial | exact .inl (DLe.refl _) | exact .inl (DLe.nil _ _) | (refine .inr ⟨rfl, _, ?_, rfl⟩; rfl) | exact rfl | exact Nat.zero_le _ | constructor)
    · conv => whnf
      refine ⟨rfl, ?_⟩
      conv => whnf
      refine ⟨by decide, ?_⟩
      conv => whnf
      rw [b1, b2]
      (refine ⟨Nat.le_of_ble_eq_true rfl, ?_⟩; conv => whnf)
      refine ⟨Int, byD, L ++ be2 a ++ be2 b, (by rw [List.map_append]; rfl), fun _ => rfl, by omega, (by show _ * 1 ≤ _; omega), rfl, ?_⟩
      conv => whnf
      refine ⟨2, [(1, 2)], [], ?_, by decide, by decide⟩
      repeat' (first | exact trivial | exact .inl (DLe.refl _) | exact .inl (DLe.nil _ _) | (refine .inr ⟨rfl, _, ?_, rfl⟩; rfl) | exact rfl | exact Nat.zero_le _ | constructor)
    · conv => whnf
      refine ⟨[], [], .grow 1, [(1, .grow Int 5 1 byD (L ++ be2 a ++ be2 b))], 2, ?_, rfl, rfl, hK⟩
      repeat' (first | exact trivial | exact .inl (DLe.refl _) | exact .inl (DLe.nil _ _) | (refine .inr ⟨rfl, _, ?_, rfl⟩; rfl) | exact rfl | exact Nat.zero_le _ | constructor)

structure FlOk (f : Fl) : Prop where
  src : 0 ≤ f.src ∧ f.src < 4294967296
  dst : 0 ≤ f.dst ∧ f.dst < 4294967296
  sp : 0 ≤ f.sp ∧ f.sp < 65536
  dp : 0 ≤ f.dp ∧ f.dp < 65536
  pr : 0 ≤ f.pr ∧ f.pr < 256
def flD (f : Fl) : List D := [.v (.int .u32 f.src), .v (.int .u32 f.dst), .v (.int .u16 f.sp), .v (.int .u16 f.dp), .v (.int .u8 f.pr)]
def flB (f : Fl) : List Int := be4 f.src ++ be4 f.dst ++ be2 f.sp ++ be2 f.dp ++ [f.pr]
theorem flB_bytes {f : Fl} (h : FlOk f) : Bytes (flB f) := by
  intro x hx
  have := h.pr
  simp only [flB, be4, be2, List.mem_append, List.mem_cons, List.not_mem_nil, or_false] at hx
  omega

set_option maxHeartbeats 4000000 in
theorem bytes_fn {f : Fl} (h : FlOk f) : Fn Tryz.prog 58 [.agg (flD f)] fun d => d = rowsB (flB f) := by
  refine fnOf [(1, [1001, 0, 1, 2, 3, 6, 7, 8, 9, 12, 13, 16])] Tryz.func58 rfl (by kernel_rfl) (Nat.le_of_ble_eq_true rfl) ?_
  have hp := put32_fn f.src f.dst h.src h.dst
  have hl : (flB f).length = 13 := rfl
  conv => whnf
  refine ⟨Unit, fun _ => ⟨[(2, .grow 1)], [(1, .grow Int 5 1 byD (flB f))], 2, ([], 0)⟩, ?_, fun _ => ?_⟩
  · conv => whnf
    refine ⟨?_, ?_, ?_, trivial⟩
    · conv => whnf
      refine ⟨Nat.le_of_ble_eq_true rfl, ?_⟩
      conv => whnf
      refine ⟨?_, ?_, ?_, trivial⟩
      · conv => whnf
        refine CallVC.pure hp rfl ?_
        rintro _ rfl
        conv => whnf
        refine ⟨?_, ?_, trivial⟩
        · conv => whnf
          refine ⟨Nat.le_of_ble_eq_true rfl, ?_⟩
          conv => whnf
          refine ⟨?_, ?_, trivial⟩
          · conv => whnf
            refine put16_at1 _ rfl _ _ h.sp h.dp ?_
            conv => whnf
            refine ⟨?_, trivial⟩
            · conv => whnf
              refine ⟨Nat.le_of_ble_eq_true rfl, ?_⟩
              conv => whnf
              refine ⟨?_, trivial⟩
              · conv => whnf
                refine ⟨Int, byD, flB f, (by simp only [flB, List.map_append]; rfl), fun _ => rfl, by omega, (by show _ * 1 ≤ _; omega), rfl, ?_⟩
                conv => whnf
                refine ⟨(), [(1, 2)], [], ?_⟩
                repeat' (first | exact trivial | exact .inl (DLe.refl _) | exact .inl (DLe.nil _ _) | (refine .inr ⟨rfl, _, ?_, rfl⟩; rfl) | exact rfl | exact Nat.zero_le _ | constructor)
          · conv => whnf
            refine ⟨Nat.le_of_ble_eq_true rfl, ?_⟩
            conv => whnf
            refine ⟨?_, trivial⟩
            · conv => whnf
              refine put16_at1 _ rfl _ _ h.sp h.dp ?_
              conv => whnf
              refine ⟨?_, trivial⟩
              · conv => whnf
                refine ⟨Int, byD, flB f, (by simp only [flB, List.map_append]; rfl), fun _ => rfl, by omega, (by show _ * 1 ≤ _; omega), rfl, ?_⟩
                conv => whnf
                refine ⟨(), [(1, 2)], [], ?_⟩
                repeat' (first | exact trivial | exact .inl (DLe.refl _) | exact .inl (DLe.nil _ _) | (refine .inr ⟨rfl, _, ?_, rfl⟩; rfl) | exact rfl | exact Nat.zero_le _ | constructor)
        · conv => whnf
          refine ⟨Nat.le_of_ble_eq_true rfl, ?_⟩
          conv => whnf
          refine ⟨?_, trivial⟩
          · conv => whnf
            refine ⟨Nat.le_of_ble_eq_true rfl, ?_⟩
            conv => whnf
            refine ⟨?_, trivial⟩
            · conv => whnf
              refine put16_at1 _ rfl _ _ h.sp h.dp ?_
              conv => whnf
              refine ⟨?_, trivial⟩
              · conv => whnf
                refine ⟨Int, byD, flB f, (by simp only [flB, List.map_append]; rfl), fun _ => rfl, by omega, (by show _ * 1 ≤ _; omega), rfl, ?_⟩
                conv => whnf
                refine ⟨(), [(1, 2)], [], ?_⟩
                repeat' (first | exact trivial | exact .inl (DLe.refl _) | exact .inl (DLe.nil _ _) | (refine .inr ⟨rfl, _, ?_, rfl⟩; rfl) | exact rfl | exact Nat.zero_le _ | constructor)
      · conv => whnf
        refine ⟨Nat.le_of_ble_eq_true rfl, ?_⟩
        conv => whnf
        refine ⟨?_, ?_, trivial⟩
        · conv => whnf
          refine CallVC.pure hp rfl ?_
          rintro _ rfl
          conv => whnf
          refine ⟨?_, ?_, trivial⟩
          · conv => whnf
            refine put16_at1 _ rfl _ _ h.sp h.dp ?_
            conv => whnf
            refine ⟨?_, trivial⟩
            · conv => whnf
              refine ⟨Nat.le_of_ble_eq_true rfl, ?_⟩
              conv => whnf
              refine ⟨?_, trivial⟩
              · conv => whnf
                refine ⟨Int, byD, flB f, (by simp only [flB, List.map_append]; rfl), fun _ => rfl, by omega, (by show _ * 1 ≤ _; omega), rfl, ?_⟩
                conv => whnf
                refine ⟨(), [(1, 2)], [], ?_⟩
                repeat' (first | exact trivial | exact .inl (DLe.refl _) | exact .inl (DLe.nil _ _) | (refine .inr ⟨rfl, _, ?_, rfl⟩; rfl) | exact rfl | exact Nat.zero_le _ | constructor)
          · conv => whnf
            refine ⟨Nat.le_of_ble_eq_true rfl, ?_⟩
            conv => whnf
            refine ⟨?_, trivial⟩
            · conv => whnf
              refine put16_at1 _ rfl _ _ h.sp h.dp ?_
              conv => whnf
              refine ⟨?_, trivial⟩
              · conv => whnf
                refine ⟨Int, byD, flB f, (by simp only [flB, List.map_append]; rfl), fun _ => rfl, by omega, (by show _ * 1 ≤ _; omega), rfl, ?_⟩
                conv => whnf
                refine ⟨(), [(1, 2)], [], ?_⟩
                repeat' (first | exact trivial | exact .inl (DLe.refl _) | exact .inl (DLe.nil _ _) | (refine .inr ⟨rfl, _, ?_, rfl⟩; rfl) | exact rfl | exact Nat.zero_le _ | constructor)
        · conv => whnf
          refine ⟨Nat.le_of_ble_eq_true rfl, ?_⟩
          conv => whnf
          refine ⟨?_, trivial⟩
          · conv => whnf
            refine CallVC.pure hp rfl ?_
            rintro _ rfl
            conv => whnf
            refine ⟨?_, trivial⟩
            · conv => whnf
              refine put16_at1 _ rfl _ _ h.sp h.dp ?_
              conv => whnf
              refine ⟨?_, trivial⟩
              · conv => whnf
                refine ⟨Int, byD, flB f, (by simp only [flB, List.map_append]; rfl), fun _ => rfl, by omega, (by show _ * 1 ≤ _; omega), rfl, ?_⟩
                conv => whnf
                refine ⟨(), [(1, 2)], [], ?_⟩
                repeat' (first | exact trivial | exact .inl (DLe.refl _) | exact .inl (DLe.nil _ _) | (refine .inr ⟨rfl, _, ?_, rfl⟩; rfl) | exact rfl | exact Nat.zero_le _ | constructor)
      · conv => whnf
        refine ⟨Nat.le_of_ble_eq_true rfl, ?_⟩
        conv => whnf
        refine ⟨?_, ?_, trivial⟩
        · conv => whnf
          refine CallVC.pure hp rfl ?_
          rintro _ rfl
          conv => whnf
          refine ⟨?_, trivial⟩
          · conv => whnf
            refine ⟨Nat.le_of_ble_eq_true rfl, ?_⟩
            conv => whnf
            refine ⟨?_, trivial⟩
            · conv => whnf
              refine put16_at1 _ rfl _ _ h.sp h.dp ?_
              conv => whnf
              refine ⟨?_, trivial⟩
              · conv => whnf
                refine ⟨Int, byD, flB f, (by simp only [flB, List.map_append]; rfl), fun _ => rfl, by omega, (by show _ * 1 ≤ _; omega), rfl, ?_⟩
                conv => whnf
                refine ⟨(), [(1, 2)], [], ?_⟩
                repeat' (first | exact trivial | exact .inl (DLe.refl _) | exact .inl (DLe.nil _ _) | (refine .inr ⟨rfl, _, ?_, rfl⟩; rfl) | exact rfl | exact Nat.zero_le _ | constructor)
        · conv => whnf
          refine ⟨Nat.le_of_ble_eq_true rfl, ?_⟩
          conv => whnf
          refine ⟨?_, trivial⟩
          · conv => whnf
            refine CallVC.pure hp rfl ?_
            rintro _ rfl
            conv => whnf
            refine ⟨?_, trivial⟩
            · conv => whnf
              refine put16_at1 _ rfl _ _ h.sp h.dp ?_
              conv => whnf
              refine ⟨?_, trivial⟩
              · conv => whnf
                refine ⟨Int, byD, flB f, (by simp only [flB, List.map_append]; rfl), fun _ => rfl, by omega, (by show _ * 1 ≤ _; omega), rfl, ?_⟩
                conv => whnf
                refine ⟨(), [(1, 2)], [], ?_⟩
                repeat' (first | exact trivial | exact .inl (DLe.refl _) | exact .inl (DLe.nil _ _) | (refine .inr ⟨rfl, _, ?_, rfl⟩; rfl) | exact rfl | exact Nat.zero_le _ | constructor)
    · conv => whnf
      refine ⟨Nat.le_of_ble_eq_true rfl, ?_⟩
      conv => whnf
      refine ⟨?_, ?_, trivial⟩
      · conv => whnf
        refine ⟨Nat.le_of_ble_eq_true rfl, ?_⟩
        conv => whnf
        refine ⟨?_, ?_, trivial⟩
        · conv => whnf
          refine CallVC.pure hp rfl ?_
          rintro _ rfl
          conv => whnf
          refine ⟨?_, ?_, trivial⟩
          · conv => whnf
            refine put16_at1 _ rfl _ _ h.sp h.dp ?_
            conv => whnf
            refine ⟨?_, trivial⟩
            · conv => whnf
              refine ⟨Nat.le_of_ble_eq_true rfl, ?_⟩
              conv => whnf
              refine ⟨?_, trivial⟩
              · conv => whnf
                refine ⟨Int, byD, flB f, (by simp only [flB, List.map_append]; rfl), fun _ => rfl, by omega, (by show _ * 1 ≤ _; omega), rfl, ?_⟩
                conv => whnf
                refine ⟨(), [(1, 2)], [], ?_⟩
                repeat' (first | exact trivial | exact .inl (DLe.refl _) | exact .inl (DLe.nil _ _) | (refine .inr ⟨rfl, _, ?_, rfl⟩; rfl) | exact rfl | exact Nat.zero_le _ | constructor)
          · conv => whnf
            refine ⟨Nat.le_of_ble_eq_true rfl, ?_⟩
            conv => whnf
            refine ⟨?_, trivial⟩
            · conv => whnf
              refine put16_at1 _ rfl _ _ h.sp h.dp ?_
              conv => whnf
              refine ⟨?_, trivial⟩
              · conv => whnf
                refine ⟨Int, byD, flB f, (by simp only [flB, List.map_append]; rfl), fun _ => rfl, by omega, (by show _ * 1 ≤ _; omega), rfl, ?_⟩
                conv => whnf
                refine ⟨(), [(1, 2)], [], ?_⟩
                repeat' (first | exact trivial | exact .inl (DLe.refl _) | exact .inl (DLe.nil _ _) | (refine .inr ⟨rfl, _, ?_, rfl⟩; rfl) | exact rfl | exact Nat.zero_le _ | constructor)
        · conv => whnf
          refine ⟨Nat.le_of_ble_eq_true rfl, ?_⟩
          conv => whnf
          refine ⟨?_, trivial⟩
          · conv => whnf
            refine CallVC.pure hp rfl ?_
            rintro _ rfl
            conv => whnf
            refine ⟨?_, trivial⟩
            · conv => whnf
              refine put16_at1 _ rfl _ _ h.sp h.dp ?_
              conv => whnf
              refine ⟨?_, trivial⟩
              · conv => whnf
                refine ⟨Int, byD, flB f, (by simp only [flB, List.map_append]; rfl), fun _ => rfl, by omega, (by show _ * 1 ≤ _; omega), rfl, ?_⟩
                conv => whnf
                refine ⟨(), [(1, 2)], [], ?_⟩
                repeat' (first | exact trivial | exact .inl (DLe.refl _) | exact .inl (DLe.nil _ _) | (refine .inr ⟨rfl, _, ?_, rfl⟩; rfl) | exact rfl | exact Nat.zero_le _ | constructor)
      · conv => whnf
        refine ⟨Nat.le_of_ble_eq_true rfl, ?_⟩
        conv => whnf
        refine ⟨?_, trivial⟩
        · conv => whnf
          refine ⟨Nat.le_of_ble_eq_true rfl, ?_⟩
          conv => whnf
          refine ⟨?_, trivial⟩
          · conv => whnf
            refine CallVC.pure hp rfl ?_
            rintro _ rfl
            conv => whnf
            refine ⟨?_, trivial⟩
            · conv => whnf
              refine put16_at1 _ rfl _ _ h.sp h.dp ?_
              conv => whnf
              refine ⟨?_, trivial⟩
              · conv => whnf
                refine ⟨Int, byD, flB f, (by simp only [flB, List.map_append]; rfl), fun _ => rfl, by omega, (by show _ * 1 ≤ _; omega), rfl, ?_⟩
                conv => whnf
                refine ⟨(), [(1, 2)], [], ?_⟩
                repeat' (first | exact trivial | exact .inl (DLe.refl _) | exact .inl (DLe.nil _ _) | (refine .inr ⟨rfl, _, ?_, rfl⟩; rfl) | exact rfl | exact Nat.zero_le _ | constructor)
    · conv => whnf
      refine ⟨Nat.le_of_ble_eq_true rfl, ?_⟩
      conv => whnf
      refine ⟨?_, ?_, trivial⟩
      · conv => whnf
        refine ⟨Nat.le_of_ble_eq_true rfl, ?_⟩
        conv => whnf
        refine ⟨?_, ?_, trivial⟩
        · conv => whnf
          refine CallVC.pure hp rfl ?_
          rintro _ rfl
          conv => whnf
          refine ⟨?_, trivial⟩
          · conv => whnf
            refine ⟨Nat.le_of_ble_eq_true rfl, ?_⟩
            conv => whnf
            refine ⟨?_, trivial⟩
            · conv => whnf
              refine put16_at1 _ rfl _ _ h.sp h.dp ?_
              conv => whnf
              refine ⟨?_, trivial⟩
              · conv => whnf
                refine ⟨Int, byD, flB f, (by simp only [flB, List.map_append]; rfl), fun _ => rfl, by omega, (by show _ * 1 ≤ _; omega), rfl, ?_⟩
                conv => whnf
                refine ⟨(), [(1, 2)], [], ?_⟩
                repeat' (first | exact trivial | exact .inl (DLe.refl _) | exact .inl (DLe.nil _ _) | (refine .inr ⟨rfl, _, ?_, rfl⟩; rfl) | exact rfl | exact Nat.zero_le _ | constructor)
        · conv => whnf
          refine ⟨Nat.le_of_ble_eq_true rfl, ?_⟩
          conv => whnf
          refine ⟨?_, trivial⟩
          · conv => whnf
            refine CallVC.pure hp rfl ?_
            rintro _ rfl
            conv => whnf
            refine ⟨?_, trivial⟩
            · conv => whnf
              refine put16_at1 _ rfl _ _ h.sp h.dp ?_
              conv => whnf
              refine ⟨?_, trivial⟩
              · conv => whnf
                refine ⟨Int, byD, flB f, (by simp only [flB, List.map_append]; rfl), fun _ => rfl, by omega, (by show _ * 1 ≤ _; omega), rfl, ?_⟩
                conv => whnf
                refine ⟨(), [(1, 2)], [], ?_⟩
                repeat' (first | exact trivial | exact .inl (DLe.refl _) | exact .inl (DLe.nil _ _) | (refine .inr ⟨rfl, _, ?_, rfl⟩; rfl) | exact rfl | exact Nat.zero_le _ | constructor)
      · conv => whnf
        refine ⟨Nat.le_of_ble_eq_true rfl, ?_⟩
        conv => whnf
        refine ⟨?_, trivial⟩
        · conv => whnf
          refine ⟨Nat.le_of_ble_eq_true rfl, ?_⟩
          conv => whnf
          refine ⟨?_, trivial⟩
          · conv => whnf
            refine CallVC.pure hp rfl ?_
            rintro _ rfl
            conv => whnf
            refine ⟨?_, trivial⟩
            · conv => whnf
              refine put16_at1 _ rfl _ _ h.sp h.dp ?_
              conv => whnf
              refine ⟨?_, trivial⟩
              · conv => whnf
                refine ⟨Int, byD, flB f, (by simp only [flB, List.map_append]; rfl), fun _ => rfl, by omega, (by show _ * 1 ≤ _; omega), rfl, ?_⟩
                conv => whnf
                refine ⟨(), [(1, 2)], [], ?_⟩
                repeat' (first | exact trivial | exact .inl (DLe.refl _) | exact .inl (DLe.nil _ _) | (refine .inr ⟨rfl, _, ?_, rfl⟩; rfl) | exact rfl | exact Nat.zero_le _ | constructor)
  · conv => whnf
end Go.Proofs.YtcbpdjikdohegaaGreat.V
namespace Go.Proofs.YtcbpdjikdohegaaGreat.V
open Go.RowKit
theorem bytes_run {w : World} {B : Nat → Prop} {L : List Int} {v : Value} (h : Rep (baseCtx w B) (rowsB L) v) : (Extern.Bytes.bytesOf v).run Tryz.prog w = .ok ⟨(Lib.bytesOf L).toArray⟩ w := by
  cases h with
  | rows b o g hc hp hl hcell hrep =>
    rename_i p c
    cases L with
    | nil => simp [Extern.Bytes.bytesOf, Extern.Bytes.loadBytes, Lib.bytesOf]; cases p <;> simp [Extern.Bytes.bytesOf, Extern.Bytes.loadBytes] <;> rfl
    | cons x0 r =>
      obtain ⟨rfl, _⟩ := hp (by simp)
      have hrun := Lib.run_loadBytesX (P := Tryz.prog) w (x0 :: r) ⟨b, o, none⟩ .empty (fun j x hj => by
        have e : (⟨b, o, none⟩ : Addr).add j = ⟨b, o + j * 1 + 0, none⟩ := by unfold Addr.add; split <;> simp_all
        have h1 := hcell j x 0 _ hj rfl
        have h2 := rep_v (hrep j x 0 _ hj rfl)
        rw [e]
        exact h1.trans (congrArg some h2))
      simp only [Extern.Bytes.bytesOf]
      rw [hrun]
      congr 1
      apply ByteArray.ext
      show (#[] : Array UInt8) ++ _ = _
      simp

set_option maxRecDepth 100000 in
theorem cmp_fn (a b : List Int) : Fn Tryz.prog 57 [rowsB a, rowsB b] fun d => d = intD (Lib.compareBytes (Lib.bytesOf a) (Lib.bytesOf b)) := by
  refine ⟨⟨_, Tryz.func57, rfl⟩, fun w B args' hB hr => ?_⟩
  match args', hr with
  | [], hr => have := hr.1; simp at this
  | [_], hr => have := hr.1; simp at this
  | [v1, v2], hr =>
    have h1 := bytes_run (hr.2 0 _ v1 rfl rfl)
    have h2 := bytes_run (hr.2 1 _ v2 rfl rfl)
    have hrun : ∀ w', w' = w → (Extern.BytealgCompare.compare #[v1, v2]).run Tryz.prog w' = .ok (.int .i64 (Lib.compareBytes (Lib.bytesOf a) (Lib.bytesOf b))) w := by
      rintro _ rfl
      change Sem.run Tryz.prog (do pure (goInt (Extern.BytealgCompare.cmp (← Extern.Bytes.bytesOf v1) (← Extern.Bytes.bytesOf v2)))) _ = _
      simp only [Sem.run_bind, Sem.run_pure, h1, h2, Result.andThen]
      rw [Lib.cmp_eq]
      rfl
    show Calls Tryz.prog 57 #[v1, v2] w _
    go_enter Tryz.func57, Tryz.ntmps57
    go_wp2
    rw [run_callFunc_extern Tryz.func78 (by kernel_rfl) (by kernel_rfl) (by kernel_rfl) (e := Extern.BytealgCompare.compare) (by kernel_rfl), hrun _ rfl]
    simp only [Result.andThen]
    rw [Oper.upon_value]
    go_wp2
    go_ret
    exact ⟨_, _, rfl, rfl, Under.refl _ _, .v⟩
  | _ :: _ :: _ :: _, hr => have := hr.1; simp at this

attribute [local irreducible] Fn FnN OpVC Ob
def flK (f : Fl) : Int := f.src * 4722366482869645213696 + f.dst * 1099511627776 + f.sp * 16777216 + f.dp * 256 + f.pr
def beI : List Int → Int → Int
  | [], acc => acc
  | x :: r, acc => beI r (acc * 256 + x)
theorem beI_acc : ∀ (l : List Int) (acc : Int), beI l acc = acc * 256 ^ l.length + beI l 0
  | [], acc => by simp [beI]
  | x :: r, acc => by
    rw [beI, beI, beI_acc r, beI_acc r (0 * 256 + x), List.length_cons, Int.pow_succ, Int.add_mul, Int.mul_assoc, Int.mul_comm 256 (256 ^ r.length), Int.add_mul, Int.zero_mul, Int.zero_mul, Int.zero_add]
    omega
theorem beI_in : ∀ {l : List Int}, Bytes l → 0 ≤ beI l 0 ∧ beI l 0 < 256 ^ l.length
  | [], _ => by simp [beI]
  | x :: r, h => by
    have ih := beI_in fun y hy => h y (.tail _ hy)
    have hx := h x (.head _)
    rw [beI, beI_acc, List.length_cons, Int.pow_succ, Int.zero_mul, Int.zero_add]
    have h1 : 0 ≤ x * 256 ^ r.length := Int.mul_nonneg hx.1 (by omega)
    have h2 : x * 256 ^ r.length ≤ 255 * 256 ^ r.length := Int.mul_le_mul_of_nonneg_right (by omega) (by omega)
    omega
theorem cmp_beI : ∀ (a b : List Int), a.length = b.length → Bytes a → Bytes b → Lib.compareBytes (Lib.bytesOf a) (Lib.bytesOf b) = match decide (beI a 0 < beI b 0) with
    | true => -1
    | false => match decide (beI b 0 < beI a 0) with
      | true => 1
      | false => 0
  | [], [], _, _, _ => rfl
  | [], _ :: _, h, _, _ => by simp at h
  | _ :: _, [], h, _, _ => by simp at h
  | x :: a, y :: b, h, ha, hb => by
    have hl : a.length = b.length := by simpa using h
    have hx := ha x (.head _)
    have hy := hb y (.head _)
    have ih := cmp_beI a b hl (fun z hz => ha z (.tail _ hz)) (fun z hz => hb z (.tail _ hz))
    have ia := beI_in (l := a) fun z hz => ha z (.tail _ hz)
    have ib := beI_in (l := b) fun z hz => hb z (.tail _ hz)
    rw [← hl] at ib
    have e1 : beI (x :: a) 0 = x * 256 ^ a.length + beI a 0 := by rw [beI, beI_acc, Int.zero_mul, Int.zero_add]
    have e2 : beI (y :: b) 0 = y * 256 ^ a.length + beI b 0 := by rw [beI, beI_acc, Int.zero_mul, Int.zero_add, hl]
    have hlt : (UInt8.ofNat x.toNat < UInt8.ofNat y.toNat) ↔ x < y := by
      rw [UInt8.lt_iff_toNat_lt]
      simp only [UInt8.toNat_ofNat']
      omega
    have hgt : (UInt8.ofNat y.toNat < UInt8.ofNat x.toNat) ↔ y < x := by
      rw [UInt8.lt_iff_toNat_lt]
      simp only [UInt8.toNat_ofNat']
      omega
    show (if UInt8.ofNat x.toNat < UInt8.ofNat y.toNat then (-1 : Int) else if UInt8.ofNat y.toNat < UInt8.ofNat x.toNat then 1 else Lib.compareBytes (Lib.bytesOf a) (Lib.bytesOf b)) = _
    rw [e1, e2]
    have hP : 0 < (256 : Int) ^ a.length := Int.pow_pos (by decide)
    generalize (256 : Int) ^ a.length = P at *
    rcases Int.lt_trichotomy x y with hc | hc | hc
    · rw [if_pos (hlt.2 hc)]
      have : (x + 1) * P ≤ y * P := Int.mul_le_mul_of_nonneg_right (by omega) (by omega)
      rw [Int.add_mul, Int.one_mul] at this
      rw [decide_eq_true (by omega)]
    · subst hc
      rw [if_neg (by rw [hlt]; omega), if_neg (by rw [hgt]; omega), ih]
      have d1 : decide (x * P + beI a 0 < x * P + beI b 0) = decide (beI a 0 < beI b 0) := by rw [decide_eq_decide]; omega
      have d2 : decide (x * P + beI b 0 < x * P + beI a 0) = decide (beI b 0 < beI a 0) := by rw [decide_eq_decide]; omega
      rw [d1, d2]
    · rw [if_neg (by rw [hlt]; omega), if_pos (hgt.2 hc)]
      have : (y + 1) * P ≤ x * P := Int.mul_le_mul_of_nonneg_right (by omega) (by omega)
      rw [Int.add_mul, Int.one_mul] at this
      rw [decide_eq_false (by omega), decide_eq_true (by omega)]
def cmpI (a b : Int) : Int := match decide (a < b) with
  | true => -1
  | false => match decide (b < a) with
    | true => 1
    | false => 0
theorem beI_fl {f : Fl} (h : FlOk f) : beI (flB f) 0 = flK f := by
  obtain ⟨h1, h2, h3, h4, h5⟩ := h
  unfold flB be4 be2 flK
  simp only [List.cons_append, List.nil_append, beI]
  omega
theorem flCmp_fn {a b : Fl} (ha : FlOk a) (hb : FlOk b) : Fn Tryz.prog 40 [.agg (flD a), .agg (flD b)] fun d => d = intD (cmpI (flK a) (flK b)) := by
  refine fnOf [(1, [0, 2, 1, 3, 4, 5])] Tryz.func40 rfl (by kernel_rfl) (Nat.le_of_ble_eq_true rfl) ?_
  conv => whnf
  refine CallVC.pure (bytes_fn ha) rfl ?_
  rintro _ rfl
  conv => whnf
  refine CallVC.pure (bytes_fn hb) rfl ?_
  rintro _ rfl
  conv => whnf
  refine CallVC.pure (cmp_fn _ _) rfl ?_
  rintro _ rfl
  conv => whnf
  rw [cmp_beI (flB a) (flB b) rfl (flB_bytes ha) (flB_bytes hb), beI_fl ha, beI_fl hb]
  rfl
theorem flK_inj {a b : Fl} (ha : FlOk a) (hb : FlOk b) (h : flK a = flK b) : a = b := by
  obtain ⟨a1, a2, a3, a4, a5⟩ := a
  obtain ⟨b1, b2, b3, b4, b5⟩ := b
  have := ha.src; have := ha.dst; have := ha.sp; have := ha.dp; have := ha.pr
  have := hb.src; have := hb.dst; have := hb.sp; have := hb.dp; have := hb.pr
  unfold flK at h
  simp only at *
  obtain ⟨rfl, rfl, rfl, rfl, rfl⟩ : a1 = b1 ∧ a2 = b2 ∧ a3 = b3 ∧ a4 = b4 ∧ a5 = b5 := by omega
  rfl
end Go.Proofs.YtcbpdjikdohegaaGreat.V
