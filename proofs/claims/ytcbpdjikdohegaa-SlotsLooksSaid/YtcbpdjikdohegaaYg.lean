/-
  A flow as bytes; how two flows stand. Conditions: numbers are ones of their kinds.
-/
import Derived.Test.YtcbpdjikdohegaaYf
import Derived.Test.YtcbpdjikdohegaaYb
import Derived.Lib.BytesEntry
import Derived.Laws.Externs
namespace Go.Proofs.Ytcbpdjikdohegaa.V
open Go.RowKit
attribute [local irreducible] Fn FnN OpVC Ob

theorem be4_at (x : Int) (hx : 0 ≤ x ∧ x < 4294967296) : IntKind.u8.wrap (x.fdiv (2 ^ (min (24 : Int).toNat IntKind.u32.bits))) = x / 16777216 % 256 ∧ IntKind.u8.wrap (x.fdiv (2 ^ (min (16 : Int).toNat IntKind.u32.bits))) = x / 65536 % 256 ∧
    IntKind.u8.wrap (x.fdiv (2 ^ (min (8 : Int).toNat IntKind.u32.bits))) = x / 256 % 256 ∧ IntKind.u8.wrap x = x % 256 := by
  have e : ∀ k : Nat, x.fdiv (2 ^ k) = x / 2 ^ k := fun k => Int.fdiv_eq_ediv_of_nonneg _ (Int.le_of_lt (Int.pow_pos (by decide)))
  refine ⟨?_, ?_, ?_, u8_wrap x⟩
  · rw [u8_wrap]; show x.fdiv (2 ^ 24) % 256 = _; rw [e]; rfl
  · rw [u8_wrap]; show x.fdiv (2 ^ 16) % 256 = _; rw [e]; rfl
  · rw [u8_wrap]; show x.fdiv (2 ^ 8) % 256 = _; rw [e]; rfl
theorem be2_at (x : Int) (hx : 0 ≤ x ∧ x < 65536) : IntKind.u8.wrap (x.fdiv (2 ^ (min (8 : Int).toNat IntKind.u16.bits))) = x / 256 % 256 ∧ IntKind.u8.wrap x = x % 256 := by
  refine ⟨?_, u8_wrap x⟩
  rw [u8_wrap]; show x.fdiv (2 ^ 8) % 256 = _
  rw [Int.fdiv_eq_ediv_of_nonneg _ (by decide)]; rfl

theorem clone_nil {s : St} {K : D → St → Prop} (h : K (.v (.slice none 0 0)) s) : CallVC Try.prog false 112 [.v (.slice none 0 0)] s K := by
  refine goIn [] Try.func112 rfl (by kernel_rfl) (Nat.le_of_ble_eq_true rfl) ?_
  conv => whnf
  exact h

theorem put32_fn (a b : Int) (ha : 0 ≤ a ∧ a < 4294967296) (hb : 0 ≤ b ∧ b < 4294967296) : Fn Try.prog 94 [.v (.slice none 0 0), .lit 1 [[.v (.int .u32 a)], [.v (.int .u32 b)]]] fun d => d = rowsB (be4 a ++ be4 b) := by
  refine fnOf [] Try.func94 rfl (by kernel_rfl) (Nat.le_of_ble_eq_true rfl) ?_
  obtain ⟨a1, a2, a3, a4⟩ := be4_at a ha
  obtain ⟨b1, b2, b3, b4⟩ := be4_at b hb
  conv => whnf
  refine clone_nil ?_
  conv => whnf
  refine ⟨Nat, fun k => ⟨[(12, intD k), (11, intD 2), (10, .lit 1 [[.v (.int .u32 a)], [.v (.int .u32 b)]]), (5, .grow 0)], [(0, .grow Int 5 1 byD (match k with | 0 => [] | 1 => be4 a | _ + 2 => be4 a ++ be4 b))], 1, ([], 0)⟩, fun k => k ≤ 2, fun k => 2 - k, ⟨0, [], [0], ?_, Nat.zero_le _⟩, ?_⟩
  · repeat' (first | exact trivial | exact .inl (DLe.refl _) | exact .inl (DLe.nil _ _) | (refine .inr ⟨rfl, _, ?_, rfl⟩; rfl) | exact rfl | exact Nat.zero_le _ | constructor)
  · intro k hk
    rcases (by have : k ≤ 2 := hk; omega : k = 0 ∨ k = 1 ∨ k = 2) with rfl | rfl | rfl
    · conv => whnf
      refine ⟨rfl, ?_⟩
      conv => whnf
      refine ⟨by decide, ?_⟩
      conv => whnf
      refine ⟨by decide, ?_⟩
      conv => whnf
      refine ⟨by decide, ?_⟩
      conv => whnf
      rw [a1, a2, a3, a4]
      (refine ⟨Nat.le_of_ble_eq_true rfl, ?_⟩; conv => whnf)
      refine ⟨Int, byD, be4 a, rfl, fun _ => rfl, by simp [be4], by simp [be4], rfl, ?_⟩
      conv => whnf
      refine ⟨1, [(0, 1)], [], ?_, by decide, by decide⟩
      repeat' (first | exact trivial | exact .inl (DLe.refl _) | exact .inl (DLe.nil _ _) | (refine .inr ⟨rfl, _, ?_, rfl⟩; rfl) | exact rfl | exact Nat.zero_le _ | constructor)
    · conv => whnf
      refine ⟨rfl, ?_⟩
      conv => whnf
      refine ⟨by decide, ?_⟩
      conv => whnf
      refine ⟨by decide, ?_⟩
      conv => whnf
      refine ⟨by decide, ?_⟩
      conv => whnf
      rw [b1, b2, b3, b4]
      (refine ⟨Nat.le_of_ble_eq_true rfl, ?_⟩; conv => whnf)
      refine ⟨Int, byD, be4 a ++ be4 b, rfl, fun _ => rfl, by simp [be4], by simp [be4], rfl, ?_⟩
      conv => whnf
      refine ⟨2, [(0, 1)], [], ?_, by decide, by decide⟩
      repeat' (first | exact trivial | exact .inl (DLe.refl _) | exact .inl (DLe.nil _ _) | (refine .inr ⟨rfl, _, ?_, rfl⟩; rfl) | exact rfl | exact Nat.zero_le _ | constructor)
    · conv => whnf

theorem put16_at1 (L : List Int) (hl : L.length = 8) (a b : Int) (ha : 0 ≤ a ∧ a < 65536) (hb : 0 ≤ b ∧ b < 65536) {F : List (Nat × D)} {H : List (Nat × LO)} {G : List Nat × Nat} {K : D → St → Prop} {g : Bool}
    (hK : K (.grow 1) ⟨F, (1, .grow Int 5 1 byD (L ++ be2 a ++ be2 b)) :: H, 2, G⟩) : CallVC Try.prog g 93 [rowsB L, .lit 1 [[.v (.int .u16 a)], [.v (.int .u16 b)]]] ⟨F, H, 1, G⟩ K := by
  refine CallVC.freshTo ttH ebH mxH Try.func93 rfl (pl := []) (by kernel_rfl) (Nat.le_of_ble_eq_true rfl) (by decide) rfl ?_
  obtain ⟨a1, a2⟩ := be2_at a ha
  obtain ⟨b1, b2⟩ := be2_at b hb
  have la : (L ++ be2 a).length = 10 := by simp [be2, hl]
  have lb : (L ++ be2 a ++ be2 b).length = 12 := by simp [be2, hl]
  conv => whnf
  refine goIn [] Try.func112 rfl (by kernel_rfl) (Nat.le_of_ble_eq_true rfl) ?_
  conv => whnf
  intro g hg
  cases g with
  | true => rw [hg rfl] at hl; cases hl
  | false =>
  conv => whnf
  refine ⟨Int, byD, L, rfl, fun _ => rfl, by omega, (by show _ * 1 ≤ _; omega), rfl, ?_⟩
  conv => whnf
  refine ⟨Nat, fun k => ⟨[(12, intD k), (11, intD 2), (10, .lit 1 [[.v (.int .u16 a)], [.v (.int .u16 b)]]), (5, .grow 1)], [(1, .grow Int 5 1 byD (match k with | 0 => L | 1 => L ++ be2 a | _ + 2 => L ++ be2 a ++ be2 b))], 2, ([], 0)⟩, fun k => k ≤ 2, fun k => 2 - k, ⟨0, [(1, 2)], [], ?_, Nat.zero_le _⟩, ?_⟩
  · repeat' (first | exact trivial | exact .inl (DLe.refl _) | exact .inl (DLe.nil _ _) | (refine .inr ⟨rfl, _, ?_, rfl⟩; rfl) | exact rfl | exact Nat.zero_le _ | constructor)
  · intro k hk
    rcases (by have : k ≤ 2 := hk; omega : k = 0 ∨ k = 1 ∨ k = 2) with rfl | rfl | rfl
    · conv => whnf
      refine ⟨rfl, ?_⟩
      conv => whnf
      refine ⟨by decide, ?_⟩
      conv => whnf
      rw [a1, a2]
      (refine ⟨Nat.le_of_ble_eq_true rfl, ?_⟩; conv => whnf)
      refine ⟨Int, byD, L ++ be2 a, (by rw [List.map_append]; rfl), fun _ => rfl, by omega, (by show _ * 1 ≤ _; omega), rfl, ?_⟩
      conv => whnf
      refine ⟨1, [(1, 2)], [], ?_, by decide, by decide⟩
      repeat' (first | exact trivial | exact .inl (DLe.refl _) | exact .inl (DLe.nil _ _) | (refine .inr ⟨rfl, _, ?_, rfl⟩; rfl) | exact rfl | exact Nat.zero_le _ | constructor)
    · conv => whnf
      refine ⟨rfl, ?_⟩
      conv => whnf
      refine ⟨by decide, ?_⟩
      conv => whnf
      rw [b1, b2]
      (refine ⟨Nat.le_of_ble_eq_true rfl, ?_⟩; conv => whnf)
      refine ⟨Int, byD, L ++ be2 a ++ be2 b, (by rw [List.map_append]; rfl), fun _ => rfl, by omega, (by show _ * 1 ≤ _; omega), rfl, ?_⟩
      conv => whnf
      refine ⟨2, [(1, 2)], [], ?_, by decide, by decide⟩
      repeat' (first | exact trivial | exact .inl (DLe.refl _) | exact .inl (DLe.nil _ _) | (refine .inr ⟨rfl, _, ?_, rfl⟩; rfl) | exact rfl | exact Nat.zero_le _ | constructor)
    · conv => whnf
      refine ⟨[], [], .grow 1, [(1, .grow Int 5 1 byD (L ++ be2 a ++ be2 b))], 2, ?_, rfl, rfl, hK⟩
      repeat' (first | exact trivial | exact .inl (DLe.refl _) | exact .inl (DLe.nil _ _) | (refine .inr ⟨rfl, _, ?_, rfl⟩; rfl) | exact rfl | exact Nat.zero_le _ | constructor)

/-- A flow's numbers are of their kinds. -/
structure FlOk (f : Fl) : Prop where
  src : 0 ≤ f.src ∧ f.src < 4294967296
  dst : 0 ≤ f.dst ∧ f.dst < 4294967296
  sp : 0 ≤ f.sp ∧ f.sp < 65536
  dp : 0 ≤ f.dp ∧ f.dp < 65536
  pr : 0 ≤ f.pr ∧ f.pr < 256
def flD (f : Fl) : List D := [.v (.int .u32 f.src), .v (.int .u32 f.dst), .v (.int .u16 f.sp), .v (.int .u16 f.dp), .v (.int .u8 f.pr)]
def flB (f : Fl) : List Int := be4 f.src ++ be4 f.dst ++ be2 f.sp ++ be2 f.dp ++ [f.pr]
theorem flB_len (f : Fl) : (flB f).length = 13 := rfl
theorem flB_bytes {f : Fl} (h : FlOk f) : Bytes (flB f) := by
  intro x hx
  have := h.pr
  simp only [flB, be4, be2, List.mem_append, List.mem_cons, List.not_mem_nil, or_false] at hx
  omega

set_option maxHeartbeats 4000000 in
theorem bytes_fn {f : Fl} (h : FlOk f) : Fn Try.prog 77 [.agg (flD f)] fun d => d = rowsB (flB f) := by
  refine fnOf [(1, [1001, 0, 1, 2, 3, 6, 7, 8, 9, 12, 13, 16])] Try.func77 rfl (by kernel_rfl) (Nat.le_of_ble_eq_true rfl) ?_
  have hp := put32_fn f.src f.dst h.src h.dst
  have hl : (flB f).length = 13 := rfl
  conv => whnf
  refine ⟨Unit, fun _ => ⟨[(2, .grow 1)], [(1, .grow Int 5 1 byD (flB f))], 2, ([], 0)⟩, ?_, fun _ => ?_⟩
  · conv => whnf
    refine ⟨?_, ?_, ?_, trivial⟩
    · conv => whnf
      refine ⟨Nat.le_of_ble_eq_true rfl, ?_⟩
      conv => whnf
      refine ⟨?_, ?_, ?_, trivial⟩
      · conv => whnf
        refine CallVC.pure hp rfl ?_
        rintro _ rfl
        conv => whnf
        refine ⟨?_, ?_, trivial⟩
        · conv => whnf
          refine ⟨Nat.le_of_ble_eq_true rfl, ?_⟩
          conv => whnf
          refine ⟨?_, ?_, trivial⟩
          · conv => whnf
            refine put16_at1 _ rfl _ _ h.sp h.dp ?_
            conv => whnf
            refine ⟨?_, trivial⟩
            · conv => whnf
              refine ⟨Nat.le_of_ble_eq_true rfl, ?_⟩
              conv => whnf
              refine ⟨?_, trivial⟩
              · conv => whnf
                refine ⟨Int, byD, flB f, (by simp only [flB, List.map_append]; rfl), fun _ => rfl, by omega, (by show _ * 1 ≤ _; omega), rfl, ?_⟩
                conv => whnf
                refine ⟨(), [(1, 2)], [], ?_⟩
                repeat' (first | exact trivial | exact .inl (DLe.refl _) | exact .inl (DLe.nil _ _) | (refine .inr ⟨rfl, _, ?_, rfl⟩; rfl) | exact rfl | exact Nat.zero_le _ | constructor)
          · conv => whnf
            refine ⟨Nat.le_of_ble_eq_true rfl, ?_⟩
            conv => whnf
            refine ⟨?_, trivial⟩
            · conv => whnf
              refine put16_at1 _ rfl _ _ h.sp h.dp ?_
              conv => whnf
              refine ⟨?_, trivial⟩
              · conv => whnf
                refine ⟨Int, byD, flB f, (by simp only [flB, List.map_append]; rfl), fun _ => rfl, by omega, (by show _ * 1 ≤ _; omega), rfl, ?_⟩
                conv => whnf
                refine ⟨(), [(1, 2)], [], ?_⟩
                repeat' (first | exact trivial | exact .inl (DLe.refl _) | exact .inl (DLe.nil _ _) | (refine .inr ⟨rfl, _, ?_, rfl⟩; rfl) | exact rfl | exact Nat.zero_le _ | constructor)
        · conv => whnf
          refine ⟨Nat.le_of_ble_eq_true rfl, ?_⟩
          conv => whnf
          refine ⟨?_, trivial⟩
          · conv => whnf
            refine ⟨Nat.le_of_ble_eq_true rfl, ?_⟩
            conv => whnf
            refine ⟨?_, trivial⟩
            · conv => whnf
              refine put16_at1 _ rfl _ _ h.sp h.dp ?_
              conv => whnf
              refine ⟨?_, trivial⟩
              · conv => whnf
                refine ⟨Int, byD, flB f, (by simp only [flB, List.map_append]; rfl), fun _ => rfl, by omega, (by show _ * 1 ≤ _; omega), rfl, ?_⟩
                conv => whnf
                refine ⟨(), [(1, 2)], [], ?_⟩
                repeat' (first | exact trivial | exact .inl (DLe.refl _) | exact .inl (DLe.nil _ _) | (refine .inr ⟨rfl, _, ?_, rfl⟩; rfl) | exact rfl | exact Nat.zero_le _ | constructor)
      · conv => whnf
        refine ⟨Nat.le_of_ble_eq_true rfl, ?_⟩
        conv => whnf
        refine ⟨?_, ?_, trivial⟩
        · conv => whnf
          refine CallVC.pure hp rfl ?_
          rintro _ rfl
          conv => whnf
          refine ⟨?_, ?_, trivial⟩
          · conv => whnf
            refine put16_at1 _ rfl _ _ h.sp h.dp ?_
            conv => whnf
            refine ⟨?_, trivial⟩
            · conv => whnf
              refine ⟨Nat.le_of_ble_eq_true rfl, ?_⟩
              conv => whnf
              refine ⟨?_, trivial⟩
              · conv => whnf
                refine ⟨Int, byD, flB f, (by simp only [flB, List.map_append]; rfl), fun _ => rfl, by omega, (by show _ * 1 ≤ _; omega), rfl, ?_⟩
                conv => whnf
                refine ⟨(), [(1, 2)], [], ?_⟩
                repeat' (first | exact trivial | exact .inl (DLe.refl _) | exact .inl (DLe.nil _ _) | (refine .inr ⟨rfl, _, ?_, rfl⟩; rfl) | exact rfl | exact Nat.zero_le _ | constructor)
          · conv => whnf
            refine ⟨Nat.le_of_ble_eq_true rfl, ?_⟩
            conv => whnf
            refine ⟨?_, trivial⟩
            · conv => whnf
              refine put16_at1 _ rfl _ _ h.sp h.dp ?_
              conv => whnf
              refine ⟨?_, trivial⟩
              · conv => whnf
                refine ⟨Int, byD, flB f, (by simp only [flB, List.map_append]; rfl), fun _ => rfl, by omega, (by show _ * 1 ≤ _; omega), rfl, ?_⟩
                conv => whnf
                refine ⟨(), [(1, 2)], [], ?_⟩
                repeat' (first | exact trivial | exact .inl (DLe.refl _) | exact .inl (DLe.nil _ _) | (refine .inr ⟨rfl, _, ?_, rfl⟩; rfl) | exact rfl | exact Nat.zero_le _ | constructor)
        · conv => whnf
          refine ⟨Nat.le_of_ble_eq_true rfl, ?_⟩
          conv => whnf
          refine ⟨?_, trivial⟩
          · conv => whnf
            refine CallVC.pure hp rfl ?_
            rintro _ rfl
            conv => whnf
            refine ⟨?_, trivial⟩
            · conv => whnf
              refine put16_at1 _ rfl _ _ h.sp h.dp ?_
              conv => whnf
              refine ⟨?_, trivial⟩
              · conv => whnf
                refine ⟨Int, byD, flB f, (by simp only [flB, List.map_append]; rfl), fun _ => rfl, by omega, (by show _ * 1 ≤ _; omega), rfl, ?_⟩
                conv => whnf
                refine ⟨(), [(1, 2)], [], ?_⟩
                repeat' (first | exact trivial | exact .inl (DLe.refl _) | exact .inl (DLe.nil _ _) | (refine .inr ⟨rfl, _, ?_, rfl⟩; rfl) | exact rfl | exact Nat.zero_le _ | constructor)
      · conv => whnf
        refine ⟨Nat.le_of_ble_eq_true rfl, ?_⟩
        conv => whnf
        refine ⟨?_, ?_, trivial⟩
        · conv => whnf
          refine CallVC.pure hp rfl ?_
          rintro _ rfl
          conv => whnf
          refine ⟨?_, trivial⟩
          · conv => whnf
            refine ⟨Nat.le_of_ble_eq_true rfl, ?_⟩
            conv => whnf
            refine ⟨?_, trivial⟩
            · conv => whnf
              refine put16_at1 _ rfl _ _ h.sp h.dp ?_
              conv => whnf
              refine ⟨?_, trivial⟩
              · conv => whnf
                refine ⟨Int, byD, flB f, (by simp only [flB, List.map_append]; rfl), fun _ => rfl, by omega, (by show _ * 1 ≤ _; omega), rfl, ?_⟩
                conv => whnf
                refine ⟨(), [(1, 2)], [], ?_⟩
                repeat' (first | exact trivial | exact .inl (DLe.refl _) | exact .inl (DLe.nil _ _) | (refine .inr ⟨rfl, _, ?_, rfl⟩; rfl) | exact rfl | exact Nat.zero_le _ | constructor)
        · conv => whnf
          refine ⟨Nat.le_of_ble_eq_true rfl, ?_⟩
          conv => whnf
          refine ⟨?_, trivial⟩
          · conv => whnf
            refine CallVC.pure hp rfl ?_
            rintro _ rfl
            conv => whnf
            refine ⟨?_, trivial⟩
            · conv => whnf
              refine put16_at1 _ rfl _ _ h.sp h.dp ?_
              conv => whnf
              refine ⟨?_, trivial⟩
              · conv => whnf
                refine ⟨Int, byD, flB f, (by simp only [flB, List.map_append]; rfl), fun _ => rfl, by omega, (by show _ * 1 ≤ _; omega), rfl, ?_⟩
                conv => whnf
                refine ⟨(), [(1, 2)], [], ?_⟩
                repeat' (first | exact trivial | exact .inl (DLe.refl _) | exact .inl (DLe.nil _ _) | (refine .inr ⟨rfl, _, ?_, rfl⟩; rfl) | exact rfl | exact Nat.zero_le _ | constructor)
    · conv => whnf
      refine ⟨Nat.le_of_ble_eq_true rfl, ?_⟩
      conv => whnf
      refine ⟨?_, ?_, trivial⟩
      · conv => whnf
        refine ⟨Nat.le_of_ble_eq_true rfl, ?_⟩
        conv => whnf
        refine ⟨?_, ?_, trivial⟩
        · conv => whnf
          refine CallVC.pure hp rfl ?_
          rintro _ rfl
          conv => whnf
          refine ⟨?_, ?_, trivial⟩
          · conv => whnf
            refine put16_at1 _ rfl _ _ h.sp h.dp ?_
            conv => whnf
            refine ⟨?_, trivial⟩
            · conv => whnf
              refine ⟨Nat.le_of_ble_eq_true rfl, ?_⟩
              conv => whnf
              refine ⟨?_, trivial⟩
              · conv => whnf
                refine ⟨Int, byD, flB f, (by simp only [flB, List.map_append]; rfl), fun _ => rfl, by omega, (by show _ * 1 ≤ _; omega), rfl, ?_⟩
                conv => whnf
                refine ⟨(), [(1, 2)], [], ?_⟩
                repeat' (first | exact trivial | exact .inl (DLe.refl _) | exact .inl (DLe.nil _ _) | (refine .inr ⟨rfl, _, ?_, rfl⟩; rfl) | exact rfl | exact Nat.zero_le _ | constructor)
          · conv => whnf
            refine ⟨Nat.le_of_ble_eq_true rfl, ?_⟩
            conv => whnf
            refine ⟨?_, trivial⟩
            · conv => whnf
              refine put16_at1 _ rfl _ _ h.sp h.dp ?_
              conv => whnf
              refine ⟨?_, trivial⟩
              · conv => whnf
                refine ⟨Int, byD, flB f, (by simp only [flB, List.map_append]; rfl), fun _ => rfl, by omega, (by show _ * 1 ≤ _; omega), rfl, ?_⟩
                conv => whnf
                refine ⟨(), [(1, 2)], [], ?_⟩
                repeat' (first | exact trivial | exact .inl (DLe.refl _) | exact .inl (DLe.nil _ _) | (refine .inr ⟨rfl, _, ?_, rfl⟩; rfl) | exact rfl | exact Nat.zero_le _ | constructor)
        · conv => whnf
          refine ⟨Nat.le_of_ble_eq_true rfl, ?_⟩
          conv => whnf
          refine ⟨?_, trivial⟩
          · conv => whnf
            refine CallVC.pure hp rfl ?_
            rintro _ rfl
            conv => whnf
            refine ⟨?_, trivial⟩
            · conv => whnf
              refine put16_at1 _ rfl _ _ h.sp h.dp ?_
              conv => whnf
              refine ⟨?_, trivial⟩
              · conv => whnf
                refine ⟨Int, byD, flB f, (by simp only [flB, List.map_append]; rfl), fun _ => rfl, by omega, (by show _ * 1 ≤ _; omega), rfl, ?_⟩
                conv => whnf
                refine ⟨(), [(1, 2)], [], ?_⟩
                repeat' (first | exact trivial | exact .inl (DLe.refl _) | exact .inl (DLe.nil _ _) | (refine .inr ⟨rfl, _, ?_, rfl⟩; rfl) | exact rfl | exact Nat.zero_le _ | constructor)
      · conv => whnf
        refine ⟨Nat.le_of_ble_eq_true rfl, ?_⟩
        conv => whnf
        refine ⟨?_, trivial⟩
        · conv => whnf
          refine ⟨Nat.le_of_ble_eq_true rfl, ?_⟩
          conv => whnf
          refine ⟨?_, trivial⟩
          · conv => whnf
            refine CallVC.pure hp rfl ?_
            rintro _ rfl
            conv => whnf
            refine ⟨?_, trivial⟩
            · conv => whnf
              refine put16_at1 _ rfl _ _ h.sp h.dp ?_
              conv => whnf
              refine ⟨?_, trivial⟩
              · conv => whnf
                refine ⟨Int, byD, flB f, (by simp only [flB, List.map_append]; rfl), fun _ => rfl, by omega, (by show _ * 1 ≤ _; omega), rfl, ?_⟩
                conv => whnf
                refine ⟨(), [(1, 2)], [], ?_⟩
                repeat' (first | exact trivial | exact .inl (DLe.refl _) | exact .inl (DLe.nil _ _) | (refine .inr ⟨rfl, _, ?_, rfl⟩; rfl) | exact rfl | exact Nat.zero_le _ | constructor)
    · conv => whnf
      refine ⟨Nat.le_of_ble_eq_true rfl, ?_⟩
      conv => whnf
      refine ⟨?_, ?_, trivial⟩
      · conv => whnf
        refine ⟨Nat.le_of_ble_eq_true rfl, ?_⟩
        conv => whnf
        refine ⟨?_, ?_, trivial⟩
        · conv => whnf
          refine CallVC.pure hp rfl ?_
          rintro _ rfl
          conv => whnf
          refine ⟨?_, trivial⟩
          · conv => whnf
            refine ⟨Nat.le_of_ble_eq_true rfl, ?_⟩
            conv => whnf
            refine ⟨?_, trivial⟩
            · conv => whnf
              refine put16_at1 _ rfl _ _ h.sp h.dp ?_
              conv => whnf
              refine ⟨?_, trivial⟩
              · conv => whnf
                refine ⟨Int, byD, flB f, (by simp only [flB, List.map_append]; rfl), fun _ => rfl, by omega, (by show _ * 1 ≤ _; omega), rfl, ?_⟩
                conv => whnf
                refine ⟨(), [(1, 2)], [], ?_⟩
                repeat' (first | exact trivial | exact .inl (DLe.refl _) | exact .inl (DLe.nil _ _) | (refine .inr ⟨rfl, _, ?_, rfl⟩; rfl) | exact rfl | exact Nat.zero_le _ | constructor)
        · conv => whnf
          refine ⟨Nat.le_of_ble_eq_true rfl, ?_⟩
          conv => whnf
          refine ⟨?_, trivial⟩
          · conv => whnf
            refine CallVC.pure hp rfl ?_
            rintro _ rfl
            conv => whnf
            refine ⟨?_, trivial⟩
            · conv => whnf
              refine put16_at1 _ rfl _ _ h.sp h.dp ?_
              conv => whnf
              refine ⟨?_, trivial⟩
              · conv => whnf
                refine ⟨Int, byD, flB f, (by simp only [flB, List.map_append]; rfl), fun _ => rfl, by omega, (by show _ * 1 ≤ _; omega), rfl, ?_⟩
                conv => whnf
                refine ⟨(), [(1, 2)], [], ?_⟩
                repeat' (first | exact trivial | exact .inl (DLe.refl _) | exact .inl (DLe.nil _ _) | (refine .inr ⟨rfl, _, ?_, rfl⟩; rfl) | exact rfl | exact Nat.zero_le _ | constructor)
      · conv => whnf
        refine ⟨Nat.le_of_ble_eq_true rfl, ?_⟩
        conv => whnf
        refine ⟨?_, trivial⟩
        · conv => whnf
          refine ⟨Nat.le_of_ble_eq_true rfl, ?_⟩
          conv => whnf
          refine ⟨?_, trivial⟩
          · conv => whnf
            refine CallVC.pure hp rfl ?_
            rintro _ rfl
            conv => whnf
            refine ⟨?_, trivial⟩
            · conv => whnf
              refine put16_at1 _ rfl _ _ h.sp h.dp ?_
              conv => whnf
              refine ⟨?_, trivial⟩
              · conv => whnf
                refine ⟨Int, byD, flB f, (by simp only [flB, List.map_append]; rfl), fun _ => rfl, by omega, (by show _ * 1 ≤ _; omega), rfl, ?_⟩
                conv => whnf
                refine ⟨(), [(1, 2)], [], ?_⟩
                repeat' (first | exact trivial | exact .inl (DLe.refl _) | exact .inl (DLe.nil _ _) | (refine .inr ⟨rfl, _, ?_, rfl⟩; rfl) | exact rfl | exact Nat.zero_le _ | constructor)
  · conv => whnf
end Go.Proofs.Ytcbpdjikdohegaa.V
