/-
  The document's slots, by value. Conditions: flows' numbers are of their kinds, rows not too long.
  The document's slots, by value: deeds. Conditions: flows' numbers are of their kinds, rows not too long.
  The document's slots, by value: putting and dropping. Conditions: flows' numbers are of their kinds, rows not too long.
  Slots and the document's row: what holds between them. No condition.
-/
import Derived.Test.YtcbpdjikdohegaaGreatYmK
namespace Go.Proofs.YtcbpdjikdohegaaGreat.V
open Go.RowKit
attribute [local irreducible] Fn FnN OpVC Ob ObS NewS

theorem cmpI_cases (a b : Int) : (a < b ∧ cmpI a b = -1) ∨ (b < a ∧ cmpI a b = 1) ∨ (a = b ∧ cmpI a b = 0) := by
  unfold cmpI
  rcases Int.lt_trichotomy a b with h | h | h
  · exact .inl ⟨h, by rw [decide_eq_true h]⟩
  · exact .inr (.inr ⟨h, by rw [decide_eq_false (by omega), decide_eq_false (by omega)]⟩)
  · exact .inr (.inl ⟨h, by rw [decide_eq_false (by omega), decide_eq_true h]⟩)
def lexC : List (Int × Int) → Int
  | [] => 0
  | (x, y) :: r => match decide (x < y) with
    | true => -1
    | false => match decide (y < x) with
      | true => 1
      | false => lexC r
theorem lexC_fl {a b : Fl} (ha : FlOk a) (hb : FlOk b) : lexC [(a.src, b.src), (a.dst, b.dst), (a.sp, b.sp), (a.dp, b.dp), (a.pr, b.pr)] = cmpI (flK a) (flK b) := by
  have := ha.src; have := ha.dst; have := ha.sp; have := ha.dp; have := ha.pr
  have := hb.src; have := hb.dst; have := hb.sp; have := hb.dp; have := hb.pr
  have hk : ∀ r : Int, ((r = -1 ∧ flK a < flK b) ∨ (r = 1 ∧ flK b < flK a) ∨ (r = 0 ∧ flK a = flK b)) → r = cmpI (flK a) (flK b) := fun r hr => by
    rcases cmpI_cases (flK a) (flK b) with ⟨h1, h2⟩ | ⟨h1, h2⟩ | ⟨h1, h2⟩ <;> rw [h2] <;> omega
  apply hk
  unfold flK lexC
  split
  · rename_i h; have := of_decide_eq_true h; exact .inl ⟨rfl, by omega⟩
  rename_i h1; have h1 := of_decide_eq_false h1
  split
  · rename_i h; have := of_decide_eq_true h; exact .inr (.inl ⟨rfl, by omega⟩)
  rename_i h2; have h2 := of_decide_eq_false h2
  unfold lexC
  split
  · rename_i h; have := of_decide_eq_true h; exact .inl ⟨rfl, by omega⟩
  rename_i h3; have h3 := of_decide_eq_false h3
  split
  · rename_i h; have := of_decide_eq_true h; exact .inr (.inl ⟨rfl, by omega⟩)
  rename_i h4; have h4 := of_decide_eq_false h4
  unfold lexC
  split
  · rename_i h; have := of_decide_eq_true h; exact .inl ⟨rfl, by omega⟩
  rename_i h5; have h5 := of_decide_eq_false h5
  split
  · rename_i h; have := of_decide_eq_true h; exact .inr (.inl ⟨rfl, by omega⟩)
  rename_i h6; have h6 := of_decide_eq_false h6
  unfold lexC
  split
  · rename_i h; have := of_decide_eq_true h; exact .inl ⟨rfl, by omega⟩
  rename_i h7; have h7 := of_decide_eq_false h7
  split
  · rename_i h; have := of_decide_eq_true h; exact .inr (.inl ⟨rfl, by omega⟩)
  rename_i h8; have h8 := of_decide_eq_false h8
  unfold lexC
  split
  · rename_i h; have := of_decide_eq_true h; exact .inl ⟨rfl, by omega⟩
  rename_i h9; have h9 := of_decide_eq_false h9
  split
  · rename_i h; have := of_decide_eq_true h; exact .inr (.inl ⟨rfl, by omega⟩)
  rename_i h10; have h10 := of_decide_eq_false h10
  unfold lexC
  exact .inr (.inr ⟨rfl, by omega⟩)

theorem u32_id {n : Int} (h : 0 ≤ n ∧ n < 4294967296) : IntKind.u32.wrap n = n := by rw [u32_wrap]; omega
theorem rcmp_fn {a b : Fl} (ha : FlOk a) (hb : FlOk b) : Fn Tryz.prog 32 [.agg (flD a), .agg (flD b)] fun d => d = intD (cmpI (flK a) (flK b)) := by
  refine fnOf [] Tryz.func32 rfl (by kernel_rfl) (Nat.le_of_ble_eq_true rfl) ?_
  rw [← lexC_fl ha hb]
  have := ha.sp; have := ha.dp; have := ha.pr
  have := hb.sp; have := hb.dp; have := hb.pr
  have a3 : IntKind.u32.wrap a.sp = a.sp := u32_id (by omega)
  have a4 : IntKind.u32.wrap a.dp = a.dp := u32_id (by omega)
  have a5 : IntKind.u32.wrap a.pr = a.pr := u32_id (by omega)
  have b3 : IntKind.u32.wrap b.sp = b.sp := u32_id (by omega)
  have b4 : IntKind.u32.wrap b.dp = b.dp := u32_id (by omega)
  have b5 : IntKind.u32.wrap b.pr = b.pr := u32_id (by omega)
  conv => whnf
  rw [a3, a4, a5]
  (refine ⟨Nat.le_of_ble_eq_true rfl, ?_⟩; conv => whnf)
  rw [b3, b4, b5]
  (refine ⟨Nat.le_of_ble_eq_true rfl, ?_⟩; conv => whnf)
  refine ⟨Nat, fun k => ⟨[(7, intD k), (6, .lit 1 [[.v (.int .u32 b.src)], [.v (.int .u32 b.dst)], [.v (.int .u32 b.sp)], [.v (.int .u32 b.dp)], [.v (.int .u32 b.pr)]]), (5, .lit 1 [[.v (.int .u32 a.src)], [.v (.int .u32 a.dst)], [.v (.int .u32 a.sp)], [.v (.int .u32 a.dp)], [.v (.int .u32 a.pr)]])], [], 2, ([], 0)⟩,
    fun k => k ≤ 5 ∧ lexC [(a.src, b.src), (a.dst, b.dst), (a.sp, b.sp), (a.dp, b.dp), (a.pr, b.pr)] = lexC ([(a.src, b.src), (a.dst, b.dst), (a.sp, b.sp), (a.dp, b.dp), (a.pr, b.pr)].drop k), fun k => 5 - k, ⟨0, [], [], ?_, Nat.zero_le _, rfl⟩, ?_⟩
  · repeat' (first | exact trivial | exact .inl (DLe.refl _) | exact .inl (DLe.nil _ _) | (refine .inr ⟨rfl, _, ?_, rfl⟩; rfl) | exact rfl | exact Nat.zero_le _ | constructor)
  · rintro k ⟨hk, hC⟩
    rcases (by omega : k = 0 ∨ k = 1 ∨ k = 2 ∨ k = 3 ∨ k = 4 ∨ k = 5) with rfl | rfl | rfl | rfl | rfl | rfl
    · have hC2 := hC.trans (show lexC _ = (match decide (a.src < b.src) with
        | true => -1
        | false => match decide (b.src < a.src) with
          | true => 1
          | false => lexC ([(a.src, b.src), (a.dst, b.dst), (a.sp, b.sp), (a.dp, b.dp), (a.pr, b.pr)].drop 1)) from rfl)
      conv => whnf
      refine ⟨rfl, ?_⟩
      conv => whnf
      refine ⟨rfl, ?_⟩
      conv => whnf
      cases h1 : decide (a.src < b.src) with
      | true =>
        rw [h1] at hC2
        rw [hC2]
        conv => whnf
      | false =>
        rw [h1] at hC2
        simp only at hC2
        conv => whnf
        refine ⟨rfl, ?_⟩
        conv => whnf
        refine ⟨rfl, ?_⟩
        conv => whnf
        cases h2 : decide (b.src < a.src) with
        | true =>
          rw [h2] at hC2
          rw [hC2]
          conv => whnf
        | false =>
          rw [h2] at hC2
          simp only at hC2
          conv => whnf
          refine ⟨1, [], [], ?_, ⟨by decide, hC2⟩, by decide⟩
          repeat' (first | exact trivial | exact .inl (DLe.refl _) | exact .inl (DLe.nil _ _) | (refine .inr ⟨rfl, _, ?_, rfl⟩; rfl) | exact rfl | exact Nat.zero_le _ | constructor)
    · have hC2 := hC.trans (show lexC _ = (match decide (a.dst < b.dst) with
        | true => -1
        | false => match decide (b.dst < a.dst) with
          | true => 1
          | false => lexC ([(a.src, b.src), (a.dst, b.dst), (a.sp, b.sp), (a.dp, b.dp), (a.pr, b.pr)].drop 2)) from rfl)
      conv => whnf
      refine ⟨rfl, ?_⟩
      conv => whnf
      refine ⟨rfl, ?_⟩
      conv => whnf
      cases h1 : decide (a.dst < b.dst) with
      | true =>
        rw [h1] at hC2
        rw [hC2]
        conv => whnf
      | false =>
        rw [h1] at hC2
        simp only at hC2
        conv => whnf
        refine ⟨rfl, ?_⟩
        conv => whnf
        refine ⟨rfl, ?_⟩
        conv => whnf
        cases h2 : decide (b.dst < a.dst) with
        | true =>
          rw [h2] at hC2
          rw [hC2]
          conv => whnf
        | false =>
          rw [h2] at hC2
          simp only at hC2
          conv => whnf
          refine ⟨2, [], [], ?_, ⟨by decide, hC2⟩, by decide⟩
          repeat' (first | exact trivial | exact .inl (DLe.refl _) | exact .inl (DLe.nil _ _) | (refine .inr ⟨rfl, _, ?_, rfl⟩; rfl) | exact rfl | exact Nat.zero_le _ | constructor)
    · have hC2 := hC.trans (show lexC _ = (match decide (a.sp < b.sp) with
        | true => -1
        | false => match decide (b.sp < a.sp) with
          | true => 1
          | false => lexC ([(a.src, b.src), (a.dst, b.dst), (a.sp, b.sp), (a.dp, b.dp), (a.pr, b.pr)].drop 3)) from rfl)
      conv => whnf
      refine ⟨rfl, ?_⟩
      conv => whnf
      refine ⟨rfl, ?_⟩
      conv => whnf
      cases h1 : decide (a.sp < b.sp) with
      | true =>
        rw [h1] at hC2
        rw [hC2]
        conv => whnf
      | false =>
        rw [h1] at hC2
        simp only at hC2
        conv => whnf
        refine ⟨rfl, ?_⟩
        conv => whnf
        refine ⟨rfl, ?_⟩
        conv => whnf
        cases h2 : decide (b.sp < a.sp) with
        | true =>
          rw [h2] at hC2
          rw [hC2]
          conv => whnf
        | false =>
          rw [h2] at hC2
          simp only at hC2
          conv => whnf
          refine ⟨3, [], [], ?_, ⟨by decide, hC2⟩, by decide⟩
          repeat' (first | exact trivial | exact .inl (DLe.refl _) | exact .inl (DLe.nil _ _) | (refine .inr ⟨rfl, _, ?_, rfl⟩; rfl) | exact rfl | exact Nat.zero_le _ | constructor)
    · have hC2 := hC.trans (show lexC _ = (match decide (a.dp < b.dp) with
        | true => -1
        | false => match decide (b.dp < a.dp) with
          | true => 1
          | false => lexC ([(a.src, b.src), (a.dst, b.dst), (a.sp, b.sp), (a.dp, b.dp), (a.pr, b.pr)].drop 4)) from rfl)
      conv => whnf
      refine ⟨rfl, ?_⟩
      conv => whnf
      refine ⟨rfl, ?_⟩
      conv => whnf
      cases h1 : decide (a.dp < b.dp) with
      | true =>
        rw [h1] at hC2
        rw [hC2]
        conv => whnf
      | false =>
        rw [h1] at hC2
        simp only at hC2
        conv => whnf
        refine ⟨rfl, ?_⟩
        conv => whnf
        refine ⟨rfl, ?_⟩
        conv => whnf
        cases h2 : decide (b.dp < a.dp) with
        | true =>
          rw [h2] at hC2
          rw [hC2]
          conv => whnf
        | false =>
          rw [h2] at hC2
          simp only at hC2
          conv => whnf
          refine ⟨4, [], [], ?_, ⟨by decide, hC2⟩, by decide⟩
          repeat' (first | exact trivial | exact .inl (DLe.refl _) | exact .inl (DLe.nil _ _) | (refine .inr ⟨rfl, _, ?_, rfl⟩; rfl) | exact rfl | exact Nat.zero_le _ | constructor)
    · have hC2 := hC.trans (show lexC _ = (match decide (a.pr < b.pr) with
        | true => -1
        | false => match decide (b.pr < a.pr) with
          | true => 1
          | false => lexC ([(a.src, b.src), (a.dst, b.dst), (a.sp, b.sp), (a.dp, b.dp), (a.pr, b.pr)].drop 5)) from rfl)
      conv => whnf
      refine ⟨rfl, ?_⟩
      conv => whnf
      refine ⟨rfl, ?_⟩
      conv => whnf
      cases h1 : decide (a.pr < b.pr) with
      | true =>
        rw [h1] at hC2
        rw [hC2]
        conv => whnf
      | false =>
        rw [h1] at hC2
        simp only at hC2
        conv => whnf
        refine ⟨rfl, ?_⟩
        conv => whnf
        refine ⟨rfl, ?_⟩
        conv => whnf
        cases h2 : decide (b.pr < a.pr) with
        | true =>
          rw [h2] at hC2
          rw [hC2]
          conv => whnf
        | false =>
          rw [h2] at hC2
          simp only at hC2
          conv => whnf
          refine ⟨5, [], [], ?_, ⟨by decide, hC2⟩, by decide⟩
          repeat' (first | exact trivial | exact .inl (DLe.refl _) | exact .inl (DLe.nil _ _) | (refine .inr ⟨rfl, _, ?_, rfl⟩; rfl) | exact rfl | exact Nat.zero_le _ | constructor)
    · rw [hC]
      conv => whnf
      rfl
end Go.Proofs.YtcbpdjikdohegaaGreat.V
namespace Go.Proofs.YtcbpdjikdohegaaGreat.V
open Go.RowKit
attribute [local irreducible] Fn FnN OpVC Ob ObS NewS

theorem in256_fn (n : Int) : Fn Tryz.prog 27 [intD n, intD 1, intD 256] fun d => d = intD (slN n) := by
  refine fnOf [] Tryz.func27 rfl (by kernel_rfl) (Nat.le_of_ble_eq_true rfl) ?_
  have e : min (max n 1) 256 = (slN n : Int) := by unfold slN; omega
  conv => whnf
  refine Fork.intro (fun h => ?_) (fun h => ?_)
  · have := of_decide_eq_true h
    conv => whnf
    rw [show ((slN n : Nat) : Int) = 1 by omega]
  · have := of_decide_eq_false h
    conv => whnf
    refine Fork.intro (fun h => ?_) (fun h => ?_)
    · have := of_decide_eq_true h
      conv => whnf
      rw [show ((slN n : Nat) : Int) = 256 by omega]
    · have := of_decide_eq_false h
      conv => whnf
      rw [show ((slN n : Nat) : Int) = n by omega]

abbrev isFl (f : Fl) (x : En) : Bool := decide (x.f = f)
theorem eqEnOk : eqOk Tryz.prog 39 [1, 1, 1, 1, 1, 1, 1, 1, 2, 2, 1, 1, 1] = true := by kernel_rfl
theorem eq_en (a b : En) : eqD (enD a) (enD b) = decide (a = b) := by
  obtain ⟨⟨a1, a2, a3, a4, a5⟩, a6, a7, a8, a9, a10, a11, a12, a13⟩ := a
  obtain ⟨⟨b1, b2, b3, b4, b5⟩, b6, b7, b8, b9, b10, b11, b12, b13⟩ := b
  show (eqD _ _) = _
  simp only [enD, flD, List.cons_append, List.nil_append, eqD, Bool.and_true]
  rw [Bool.eq_iff_iff]
  simp [En.mk.injEq, Fl.mk.injEq, and_assoc]
theorem sameE_fn (a b : List En) (ha : a.length ≤ 1000000) : Fn Tryz.prog 13 [rowsN a, rowsN b] fun d => d = boolD (decide (a = b)) := by
  refine fnOf [] Tryz.func13 rfl (by kernel_rfl) (Nat.le_of_ble_eq_true rfl) ?_
  conv => whnf
  cases g0 : (!decide ((a.length : Int) = b.length)) with
  | true =>
    have : decide ((a.length : Int) = b.length) = false := by simpa using g0
    have := of_decide_eq_false this
    conv => whnf
    rw [decide_eq_false (fun h => this (by rw [h]))]
  | false =>
    have : decide ((a.length : Int) = b.length) = true := by simpa using g0
    have hl := of_decide_eq_true this
    conv => whnf
    refine ⟨Nat, fun k => ⟨[(5, intD k), (1, rowsN b), (0, rowsN a)], [], 0, ([], 0)⟩, fun k => k ≤ a.length ∧ ∀ j, j < k → a[j]? = b[j]?, fun k => a.length - k, ⟨0, [], [], ?_, Nat.zero_le _, fun j h => by omega⟩, ?_⟩
    · repeat' (first | exact trivial | exact .inl (DLe.refl _) | exact .inl (DLe.nil _ _) | (refine .inr ⟨rfl, _, ?_, rfl⟩; rfl) | exact rfl | exact Nat.zero_le _ | constructor)
    · rintro k ⟨hk, hno⟩
      conv => whnf
      cases g1 : decide ((k : Int) < a.length) with
      | true =>
        have hlt : k < a.length := by have := of_decide_eq_true g1; omega
        obtain ⟨x, hx⟩ : ∃ x, a[k]? = some x := ⟨_, List.getElem?_eq_getElem hlt⟩
        obtain ⟨y, hy⟩ : ∃ y, b[k]? = some y := ⟨_, List.getElem?_eq_getElem (by omega)⟩
        conv => whnf
        refine ⟨rfl, ⟨by omega, by omega⟩, fun x' hx' => ?_⟩
        obtain rfl : x' = x := by rw [Int.toNat_natCast, hx] at hx'; injection hx' with hx'; exact hx'.symm
        conv => whnf
        refine ⟨rfl, ⟨by omega, by omega⟩, fun y' hy' => ?_⟩
        obtain rfl : y' = y := by rw [Int.toNat_natCast, hy] at hy'; injection hy' with hy'; exact hy'.symm
        conv => whnf
        refine ⟨eqEnOk, rfl, ?_⟩
        conv => whnf
        refine Fork.intro (fun hfk => ?_) (fun hfk => ?_)
        · have g3 : (!decide (x' = y')) = true := (congrArg (!·) (eq_en x' y')).symm.trans hfk
          have g3 : x' ≠ y' := by simpa using g3
          conv => whnf
          rw [decide_eq_false (fun h => g3 (by rw [h, hy] at hx; injection hx with hx; exact hx.symm))]
        · have g3 : (!decide (x' = y')) = false := (congrArg (!·) (eq_en x' y')).symm.trans hfk
          have g3 : x' = y' := by simpa using g3
          conv => whnf
          rw [wrap_next (show k < 1000000 by omega) (by omega)]
          refine ⟨k + 1, [], [], ?_, ⟨hlt, fun j hj => ?_⟩, by show a.length - (k + 1) < a.length - k; omega⟩
          · repeat' (first | exact trivial | exact .inl (DLe.refl _) | exact .inl (DLe.nil _ _) | (refine .inr ⟨rfl, _, ?_, rfl⟩; rfl) | exact rfl | exact Nat.zero_le _ | constructor)
          · by_cases hjk : j = k
            · rw [hjk, hx, hy, g3]
            · exact hno j (by omega)
      | false =>
        have hge := of_decide_eq_false g1
        have hab : a = b := List.ext_getElem? fun j => by
          by_cases hj : j < k
          · exact hno j hj
          · rw [List.getElem?_eq_none (by omega), List.getElem?_eq_none (by omega)]
        conv => whnf
        rw [decide_eq_true hab]
end Go.Proofs.YtcbpdjikdohegaaGreat.V
namespace Go.Proofs.YtcbpdjikdohegaaGreat.V
open Go.RowKit
attribute [local irreducible] Fn FnN OpVC Ob ObS NewS

def enP (f : Fl) (v : Int) : En := ⟨f, 0, 0, v, false, false, 0, 0, 0⟩
structure InsAt (f : Fl) (S : List En) (j : Nat) : Prop where
  le : j ≤ S.length
  lo : ∀ (m : Nat) u, m < j → S[m]? = some u → ¬ flK f < flK u.f
  hi : ∀ u, S[j]? = some u → flK f < flK u.f
end Go.Proofs.YtcbpdjikdohegaaGreat.V
namespace Go.Proofs.YtcbpdjikdohegaaGreat.V

theorem erase_perm {α : Type} : ∀ {S : List α} {k : Nat} {x : α}, S[k]? = some x → (x :: S.eraseIdx k).Perm S
  | [], _, _, h => by cases h
  | a :: r, 0, x, h => by
    obtain rfl : a = x := by simpa using h
    exact .refl _
  | a :: r, k + 1, x, h => by
    have ih := erase_perm (S := r) (k := k) (x := x) (by simpa using h)
    rw [List.eraseIdx_cons_succ]
    exact (List.Perm.swap _ _ _).trans (ih.cons a)

structure SRel (lo hi : Int) (N : Nat) (L : List Sl) (n : Nat) (S : List En) : Prop where
  ok : SlOk lo hi L n
  len : L.length = N
  so : S.Pairwise fun x y => flK x.f < flK y.f
  perm : S.Perm ((ents L).map enS)

theorem SRel.size {lo hi : Int} {N : Nat} {L : List Sl} {n : Nat} {S : List En} (h : SRel lo hi N L n S) : S.length = n ∧ n ≤ 256 := by
  have h1 := h.perm.length_eq
  rw [List.length_map] at h1
  have h2 := h.ok.cnt
  have h3 := h.ok.le
  have h4 : (ents L).length ≤ L.length := List.length_filter_le _ _
  omega
theorem SRel.flok {lo hi : Int} {N : Nat} {L : List Sl} {n : Nat} {S : List En} (h : SRel lo hi N L n S) : ∀ x, x ∈ S → FlOk x.f := fun x hx => by
  obtain ⟨y, hy, rfl⟩ := List.mem_map.1 (h.perm.mem_iff.1 hx)
  exact h.ok.fl y (List.mem_filter.1 hy).1
theorem SRel.find_is {lo hi : Int} {N : Nat} {L : List Sl} {n : Nat} {S : List En} (h : SRel lo hi N L n S) {f : Fl} {p m : Nat} (hq : fnd L f (homeN lo hi L.length f) L.length 0 = (p, m, true)) :
    ∃ k, S.findIdx? (isFl f) = some k ∧ S[k]? = some (enS (at_ L p)) := by
  obtain ⟨hp, hf, he⟩ := V.find_is h.ok.ok.pos hq
  have hmem : enS (at_ L p) ∈ S := h.perm.mem_iff.2 (List.mem_map.2 ⟨_, mem_ents.2 ⟨p, hp, hf, rfl⟩, rfl⟩)
  cases hk : S.findIdx? (isFl f) with
  | none =>
    have := List.findIdx?_eq_none_iff.1 hk _ hmem
    have : decide ((at_ L p).f = f) = false := this
    rw [he] at this; simp at this
  | some k =>
    obtain ⟨hkl, hk1, _⟩ := List.findIdx?_eq_some_iff_getElem.1 hk
    refine ⟨k, rfl, ?_⟩
    rw [List.getElem?_eq_getElem hkl]
    have hin : S[k] ∈ S := List.getElem_mem hkl
    obtain ⟨y, hy, hye⟩ := List.mem_map.1 (h.perm.mem_iff.1 hin)
    obtain ⟨q, hq1, hq2, rfl⟩ := mem_ents.1 hy
    have e1 : (at_ L q).f = f := by
      have : decide (S[k].f = f) = true := hk1
      rw [← hye] at this
      exact of_decide_eq_true this
    have := h.ok.ok.once q p hq1 hp hq2 hf (e1.trans he.symm)
    rw [← hye, this]
theorem SRel.find_not {lo hi : Int} {N : Nat} {L : List Sl} {n : Nat} {S : List En} (h : SRel lo hi N L n S) {f : Fl} {p m : Nat} (hq : fnd L f (homeN lo hi L.length f) L.length 0 = (p, m, false)) : S.findIdx? (isFl f) = none := by
  refine List.findIdx?_eq_none_iff.2 fun x hx => ?_
  obtain ⟨y, hy, rfl⟩ := List.mem_map.1 (h.perm.mem_iff.1 hx)
  obtain ⟨q, hq1, hq2, rfl⟩ := mem_ents.1 hy
  refine decide_eq_false fun he => ?_
  have he : (at_ L q).f = f := he
  obtain ⟨m', hm, _⟩ := h.ok.ok.find_in hq1 hq2
  rw [he, hq] at hm
  injection hm with _ hm; injection hm with _ hm; cases hm

theorem ins_sorted {f : Fl} {v : Int} {S : List En} {j : Nat} (hf : FlOk f) (hfl : ∀ x, x ∈ S → FlOk x.f) (hso : S.Pairwise fun x y => flK x.f < flK y.f) (hno : ∀ x, x ∈ S → x.f ≠ f) (hI : InsAt f S j) : (S.take j ++ enP f v :: S.drop j).Pairwise fun x y => flK x.f < flK y.f := by
  have hlt : ∀ x, x ∈ S.take j → flK x.f < flK f := fun x hx => by
    obtain ⟨m, hm⟩ := List.getElem?_of_mem hx
    have hml : m < j := by have := (List.getElem?_eq_some_iff.1 hm).1; rw [List.length_take] at this; omega
    rw [List.getElem?_take_of_lt hml] at hm
    have h1 := hI.lo m x hml hm
    have h2 : flK x.f ≠ flK f := fun he => hno x (List.mem_of_getElem? hm) (flK_inj (hfl x (List.mem_of_getElem? hm)) hf he)
    omega
  have hgt : ∀ x, x ∈ S.drop j → flK f < flK x.f := fun x hx => by
    obtain ⟨m, hm⟩ := List.getElem?_of_mem hx
    rw [List.getElem?_drop] at hm
    have hjl : j < S.length := by have := (List.getElem?_eq_some_iff.1 hm).1; omega
    obtain ⟨y, hy⟩ : ∃ y, S[j]? = some y := ⟨_, List.getElem?_eq_getElem hjl⟩
    have h1 := hI.hi y hy
    rcases Nat.eq_zero_or_pos m with h0 | h0
    · subst h0
      rw [Nat.add_zero, hy] at hm; injection hm with hm; subst hm; exact h1
    · have h2 := pairwise_get.1 hso (j + m) j x y (by omega) hm hy
      omega
  have hS : (S.take j ++ S.drop j).Pairwise fun x y => flK x.f < flK y.f := by rw [List.take_append_drop]; exact hso
  obtain ⟨s1, s2, s3⟩ := List.pairwise_append.1 hS
  refine List.pairwise_append.2 ⟨s1, List.pairwise_cons.2 ⟨hgt, s2⟩, fun x hx y hy => ?_⟩
  rcases List.mem_cons.1 hy with rfl | hy
  · exact hlt x hx
  · exact s3 x hx y hy

theorem SRel.put {lo hi : Int} {N : Nat} {L : List Sl} {n : Nat} {S : List En} (h : SRel lo hi N L n S) {f : Fl} (hf : FlOk f) {v : Int} {p m j : Nat} (hq : fnd L f (homeN lo hi L.length f) L.length 0 = (p, m, false)) (hn : n ≠ L.length) (hI : InsAt f S j) :
    SRel lo hi N (L.set p ⟨f, v, true⟩) (n + 1) (S.take j ++ enP f v :: S.drop j) := by
  have hpos := h.ok.ok.pos
  have hnf : ¬ Full L p := fun hfp => by
    obtain ⟨hp, hw⟩ := V.find_not hpos hq
    rcases hw with ⟨h1, _⟩ | ⟨_, h1⟩
    · exact h1 hfp
    · have hall := all_full hpos (h.ok.ok.home f) h1
      have := ents_full hall
      have h2 := h.ok.cnt
      rw [this] at h2
      exact hn h2
  obtain ⟨h1, h2⟩ := h.ok.ok.put (v := v) hq hnf
  have hno : ∀ x, x ∈ S → x.f ≠ f := fun x hx he => by
    have := List.findIdx?_eq_none_iff.1 (h.find_not hq) x hx
    have : decide (x.f = f) = false := this
    rw [he] at this; simp at this
  refine ⟨⟨by rw [List.length_set]; exact h1, fun x hx => ?_, by rw [List.length_set]; exact h.ok.le, ?_⟩, by rw [List.length_set]; exact h.len, ins_sorted hf h.flok h.so hno hI, ?_⟩
  · rcases List.mem_or_eq_of_mem_set hx with hx | rfl
    · exact h.ok.fl x hx
    · exact hf
  · have := h2.length_eq
    rw [List.length_cons] at this
    have := h.ok.cnt
    omega
  · have e1 : (S.take j ++ enP f v :: S.drop j).Perm (enP f v :: S) := by
      have := (List.perm_middle (a := enP f v) (l₁ := S.take j) (l₂ := S.drop j))
      rwa [List.take_append_drop] at this
    exact e1.trans ((h.perm.cons _).trans ((h2.map enS).symm))

theorem SRel.drop {lo hi : Int} {N : Nat} {L : List Sl} {n : Nat} {S : List En} (h : SRel lo hi N L n S) {f : Fl} {p m k : Nat} {L' : List Sl} (hq : fnd L f (homeN lo hi L.length f) L.length 0 = (p, m, true)) (hk : S.findIdx? (isFl f) = some k)
    (h1 : SlOk lo hi L' (n - 1)) (h2 : L'.length = L.length) (h3 : (ents L).Perm (at_ L p :: ents L')) : SRel lo hi N L' (n - 1) (S.eraseIdx k) := by
  obtain ⟨k', hk', hx⟩ := h.find_is hq
  rw [hk] at hk'; injection hk' with hk'; subst hk'
  refine ⟨h1, h2.trans h.len, h.so.sublist (List.eraseIdx_sublist _ _), ?_⟩
  obtain ⟨hkl, hxe⟩ := List.getElem?_eq_some_iff.1 hx
  have e1 : S.Perm (enS (at_ L p) :: S.eraseIdx k) := by
    exact (erase_perm hx).symm
  have e2 := (e1.symm.trans h.perm).trans (h3.map enS)
  rw [List.map_cons] at e2
  exact (List.perm_cons _).1 e2

theorem SRel.new (lo hi n : Int) : SRel lo hi (slN n) (List.replicate (slN n) sl0) 0 [] := by
  refine ⟨new_ok lo hi n, List.length_replicate, .nil, ?_⟩
  have := (new_ok lo hi n).cnt
  rw [List.eq_nil_of_length_eq_zero this.symm]
  exact .refl _
end Go.Proofs.YtcbpdjikdohegaaGreat.V
