/-
  The document's slots, by value. Conditions: flows' numbers are of their kinds, rows not too long.
-/
import Derived.Test.YtcbpdjikdohegaaYm
namespace Go.Proofs.Ytcbpdjikdohegaa.V
open Go.RowKit
attribute [local irreducible] Fn FnN OpVC Ob ObS NewS

theorem cmpI_cases (a b : Int) : (a < b ∧ cmpI a b = -1) ∨ (b < a ∧ cmpI a b = 1) ∨ (a = b ∧ cmpI a b = 0) := by
  unfold cmpI
  rcases Int.lt_trichotomy a b with h | h | h
  · exact .inl ⟨h, by rw [decide_eq_true h]⟩
  · exact .inr (.inr ⟨h, by rw [decide_eq_false (by omega), decide_eq_false (by omega)]⟩)
  · exact .inr (.inl ⟨h, by rw [decide_eq_false (by omega), decide_eq_true h]⟩)
/-- Field by field. -/
def lexC : List (Int × Int) → Int
  | [] => 0
  | (x, y) :: r => match decide (x < y) with
    | true => -1
    | false => match decide (y < x) with
      | true => 1
      | false => lexC r
theorem lexC_fl {a b : Fl} (ha : FlOk a) (hb : FlOk b) : lexC [(a.src, b.src), (a.dst, b.dst), (a.sp, b.sp), (a.dp, b.dp), (a.pr, b.pr)] = cmpI (flK a) (flK b) := by
  have := ha.src; have := ha.dst; have := ha.sp; have := ha.dp; have := ha.pr
  have := hb.src; have := hb.dst; have := hb.sp; have := hb.dp; have := hb.pr
  have hk : ∀ r : Int, ((r = -1 ∧ flK a < flK b) ∨ (r = 1 ∧ flK b < flK a) ∨ (r = 0 ∧ flK a = flK b)) → r = cmpI (flK a) (flK b) := fun r hr => by
    rcases cmpI_cases (flK a) (flK b) with ⟨h1, h2⟩ | ⟨h1, h2⟩ | ⟨h1, h2⟩ <;> rw [h2] <;> omega
  apply hk
  unfold flK lexC
  split
  · rename_i h; have := of_decide_eq_true h; exact .inl ⟨rfl, by omega⟩
  rename_i h1; have h1 := of_decide_eq_false h1
  split
  · rename_i h; have := of_decide_eq_true h; exact .inr (.inl ⟨rfl, by omega⟩)
  rename_i h2; have h2 := of_decide_eq_false h2
  unfold lexC
  split
  · rename_i h; have := of_decide_eq_true h; exact .inl ⟨rfl, by omega⟩
  rename_i h3; have h3 := of_decide_eq_false h3
  split
  · rename_i h; have := of_decide_eq_true h; exact .inr (.inl ⟨rfl, by omega⟩)
  rename_i h4; have h4 := of_decide_eq_false h4
  unfold lexC
  split
  · rename_i h; have := of_decide_eq_true h; exact .inl ⟨rfl, by omega⟩
  rename_i h5; have h5 := of_decide_eq_false h5
  split
  · rename_i h; have := of_decide_eq_true h; exact .inr (.inl ⟨rfl, by omega⟩)
  rename_i h6; have h6 := of_decide_eq_false h6
  unfold lexC
  split
  · rename_i h; have := of_decide_eq_true h; exact .inl ⟨rfl, by omega⟩
  rename_i h7; have h7 := of_decide_eq_false h7
  split
  · rename_i h; have := of_decide_eq_true h; exact .inr (.inl ⟨rfl, by omega⟩)
  rename_i h8; have h8 := of_decide_eq_false h8
  unfold lexC
  split
  · rename_i h; have := of_decide_eq_true h; exact .inl ⟨rfl, by omega⟩
  rename_i h9; have h9 := of_decide_eq_false h9
  split
  · rename_i h; have := of_decide_eq_true h; exact .inr (.inl ⟨rfl, by omega⟩)
  rename_i h10; have h10 := of_decide_eq_false h10
  unfold lexC
  exact .inr (.inr ⟨rfl, by omega⟩)

theorem u32_id {n : Int} (h : 0 ≤ n ∧ n < 4294967296) : IntKind.u32.wrap n = n := by rw [u32_wrap]; omega
theorem rcmp_fn {a b : Fl} (ha : FlOk a) (hb : FlOk b) : Fn Try.prog 57 [.agg (flD a), .agg (flD b)] fun d => d = intD (cmpI (flK a) (flK b)) := by
  refine fnOf [] Try.func57 rfl (by kernel_rfl) (Nat.le_of_ble_eq_true rfl) ?_
  rw [← lexC_fl ha hb]
  have := ha.sp; have := ha.dp; have := ha.pr
  have := hb.sp; have := hb.dp; have := hb.pr
  have a3 : IntKind.u32.wrap a.sp = a.sp := u32_id (by omega)
  have a4 : IntKind.u32.wrap a.dp = a.dp := u32_id (by omega)
  have a5 : IntKind.u32.wrap a.pr = a.pr := u32_id (by omega)
  have b3 : IntKind.u32.wrap b.sp = b.sp := u32_id (by omega)
  have b4 : IntKind.u32.wrap b.dp = b.dp := u32_id (by omega)
  have b5 : IntKind.u32.wrap b.pr = b.pr := u32_id (by omega)
  conv => whnf
  rw [a3, a4, a5]
  (refine ⟨Nat.le_of_ble_eq_true rfl, ?_⟩; conv => whnf)
  rw [b3, b4, b5]
  (refine ⟨Nat.le_of_ble_eq_true rfl, ?_⟩; conv => whnf)
  refine ⟨Nat, fun k => ⟨[(7, intD k), (6, .lit 1 [[.v (.int .u32 b.src)], [.v (.int .u32 b.dst)], [.v (.int .u32 b.sp)], [.v (.int .u32 b.dp)], [.v (.int .u32 b.pr)]]), (5, .lit 1 [[.v (.int .u32 a.src)], [.v (.int .u32 a.dst)], [.v (.int .u32 a.sp)], [.v (.int .u32 a.dp)], [.v (.int .u32 a.pr)]])], [], 2, ([], 0)⟩,
    fun k => k ≤ 5 ∧ lexC [(a.src, b.src), (a.dst, b.dst), (a.sp, b.sp), (a.dp, b.dp), (a.pr, b.pr)] = lexC ([(a.src, b.src), (a.dst, b.dst), (a.sp, b.sp), (a.dp, b.dp), (a.pr, b.pr)].drop k), fun k => 5 - k, ⟨0, [], [], ?_, Nat.zero_le _, rfl⟩, ?_⟩
  · repeat' (first | exact trivial | exact .inl (DLe.refl _) | exact .inl (DLe.nil _ _) | (refine .inr ⟨rfl, _, ?_, rfl⟩; rfl) | exact rfl | exact Nat.zero_le _ | constructor)
  · rintro k ⟨hk, hC⟩
    rcases (by omega : k = 0 ∨ k = 1 ∨ k = 2 ∨ k = 3 ∨ k = 4 ∨ k = 5) with rfl | rfl | rfl | rfl | rfl | rfl
    · have hC2 := hC.trans (show lexC _ = (match decide (a.src < b.src) with
        | true => -1
        | false => match decide (b.src < a.src) with
          | true => 1
          | false => lexC ([(a.src, b.src), (a.dst, b.dst), (a.sp, b.sp), (a.dp, b.dp), (a.pr, b.pr)].drop 1)) from rfl)
      conv => whnf
      refine ⟨rfl, ?_⟩
      conv => whnf
      refine ⟨rfl, ?_⟩
      conv => whnf
      cases h1 : decide (a.src < b.src) with
      | true =>
        rw [h1] at hC2
        rw [hC2]
        conv => whnf
      | false =>
        rw [h1] at hC2
        simp only at hC2
        conv => whnf
        refine ⟨rfl, ?_⟩
        conv => whnf
        refine ⟨rfl, ?_⟩
        conv => whnf
        cases h2 : decide (b.src < a.src) with
        | true =>
          rw [h2] at hC2
          rw [hC2]
          conv => whnf
        | false =>
          rw [h2] at hC2
          simp only at hC2
          conv => whnf
          refine ⟨1, [], [], ?_, ⟨by decide, hC2⟩, by decide⟩
          repeat' (first | exact trivial | exact .inl (DLe.refl _) | exact .inl (DLe.nil _ _) | (refine .inr ⟨rfl, _, ?_, rfl⟩; rfl) | exact rfl | exact Nat.zero_le _ | constructor)
    · have hC2 := hC.trans (show lexC _ = (match decide (a.dst < b.dst) with
        | true => -1
        | false => match decide (b.dst < a.dst) with
          | true => 1
          | false => lexC ([(a.src, b.src), (a.dst, b.dst), (a.sp, b.sp), (a.dp, b.dp), (a.pr, b.pr)].drop 2)) from rfl)
      conv => whnf
      refine ⟨rfl, ?_⟩
      conv => whnf
      refine ⟨rfl, ?_⟩
      conv => whnf
      cases h1 : decide (a.dst < b.dst) with
      | true =>
        rw [h1] at hC2
        rw [hC2]
        conv => whnf
      | false =>
        rw [h1] at hC2
        simp only at hC2
        conv => whnf
        refine ⟨rfl, ?_⟩
        conv => whnf
        refine ⟨rfl, ?_⟩
        conv => whnf
        cases h2 : decide (b.dst < a.dst) with
        | true =>
          rw [h2] at hC2
          rw [hC2]
          conv => whnf
        | false =>
          rw [h2] at hC2
          simp only at hC2
          conv => whnf
          refine ⟨2, [], [], ?_, ⟨by decide, hC2⟩, by decide⟩
          repeat' (first | exact trivial | exact .inl (DLe.refl _) | exact .inl (DLe.nil _ _) | (refine .inr ⟨rfl, _, ?_, rfl⟩; rfl) | exact rfl | exact Nat.zero_le _ | constructor)
    · have hC2 := hC.trans (show lexC _ = (match decide (a.sp < b.sp) with
        | true => -1
        | false => match decide (b.sp < a.sp) with
          | true => 1
          | false => lexC ([(a.src, b.src), (a.dst, b.dst), (a.sp, b.sp), (a.dp, b.dp), (a.pr, b.pr)].drop 3)) from rfl)
      conv => whnf
      refine ⟨rfl, ?_⟩
      conv => whnf
      refine ⟨rfl, ?_⟩
      conv => whnf
      cases h1 : decide (a.sp < b.sp) with
      | true =>
        rw [h1] at hC2
        rw [hC2]
        conv => whnf
      | false =>
        rw [h1] at hC2
        simp only at hC2
        conv => whnf
        refine ⟨rfl, ?_⟩
        conv => whnf
        refine ⟨rfl, ?_⟩
        conv => whnf
        cases h2 : decide (b.sp < a.sp) with
        | true =>
          rw [h2] at hC2
          rw [hC2]
          conv => whnf
        | false =>
          rw [h2] at hC2
          simp only at hC2
          conv => whnf
          refine ⟨3, [], [], ?_, ⟨by decide, hC2⟩, by decide⟩
          repeat' (first | exact trivial | exact .inl (DLe.refl _) | exact .inl (DLe.nil _ _) | (refine .inr ⟨rfl, _, ?_, rfl⟩; rfl) | exact rfl | exact Nat.zero_le _ | constructor)
    · have hC2 := hC.trans (show lexC _ = (match decide (a.dp < b.dp) with
        | true => -1
        | false => match decide (b.dp < a.dp) with
          | true => 1
          | false => lexC ([(a.src, b.src), (a.dst, b.dst), (a.sp, b.sp), (a.dp, b.dp), (a.pr, b.pr)].drop 4)) from rfl)
      conv => whnf
      refine ⟨rfl, ?_⟩
      conv => whnf
      refine ⟨rfl, ?_⟩
      conv => whnf
      cases h1 : decide (a.dp < b.dp) with
      | true =>
        rw [h1] at hC2
        rw [hC2]
        conv => whnf
      | false =>
        rw [h1] at hC2
        simp only at hC2
        conv => whnf
        refine ⟨rfl, ?_⟩
        conv => whnf
        refine ⟨rfl, ?_⟩
        conv => whnf
        cases h2 : decide (b.dp < a.dp) with
        | true =>
          rw [h2] at hC2
          rw [hC2]
          conv => whnf
        | false =>
          rw [h2] at hC2
          simp only at hC2
          conv => whnf
          refine ⟨4, [], [], ?_, ⟨by decide, hC2⟩, by decide⟩
          repeat' (first | exact trivial | exact .inl (DLe.refl _) | exact .inl (DLe.nil _ _) | (refine .inr ⟨rfl, _, ?_, rfl⟩; rfl) | exact rfl | exact Nat.zero_le _ | constructor)
    · have hC2 := hC.trans (show lexC _ = (match decide (a.pr < b.pr) with
        | true => -1
        | false => match decide (b.pr < a.pr) with
          | true => 1
          | false => lexC ([(a.src, b.src), (a.dst, b.dst), (a.sp, b.sp), (a.dp, b.dp), (a.pr, b.pr)].drop 5)) from rfl)
      conv => whnf
      refine ⟨rfl, ?_⟩
      conv => whnf
      refine ⟨rfl, ?_⟩
      conv => whnf
      cases h1 : decide (a.pr < b.pr) with
      | true =>
        rw [h1] at hC2
        rw [hC2]
        conv => whnf
      | false =>
        rw [h1] at hC2
        simp only at hC2
        conv => whnf
        refine ⟨rfl, ?_⟩
        conv => whnf
        refine ⟨rfl, ?_⟩
        conv => whnf
        cases h2 : decide (b.pr < a.pr) with
        | true =>
          rw [h2] at hC2
          rw [hC2]
          conv => whnf
        | false =>
          rw [h2] at hC2
          simp only at hC2
          conv => whnf
          refine ⟨5, [], [], ?_, ⟨by decide, hC2⟩, by decide⟩
          repeat' (first | exact trivial | exact .inl (DLe.refl _) | exact .inl (DLe.nil _ _) | (refine .inr ⟨rfl, _, ?_, rfl⟩; rfl) | exact rfl | exact Nat.zero_le _ | constructor)
    · rw [hC]
      conv => whnf
      rfl
end Go.Proofs.Ytcbpdjikdohegaa.V
