/-
  Numbers, flags, ends, words of a frame's line: the program's, by value. Conditions: numbers of their types.
-/
import Derived.Test.YtgodclgcfpmloaaGreatDoorK5
import Derived.Test.YtgodclgcfpmloaaGreatDoorK2
import Derived.Test.YtgodclgcfpmloaaGreatDoorK7
import Derived.Test.YtgodclgcfpmloaaGreatDoorK1
namespace Go.Proofs.YtgodclgcfpmloaaGreatDoor.V
open Go.RowKit
def someT (k : Nat) (d : D) : Prop := ∃ l, d = strD l ∧ Byt l ∧ l.length ≤ k
theorem litRows {α : Type} {e : Nat} {enc : α → List D} {L : List α} (hf : ∀ y d, d ∈ enc y → flatD 4 d = true) : DLe (.lit e (L.map enc)) (.rows α e enc L) := dleLit hf
theorem joinLit {L : List (List Nat)} {sep : List Nat} {Q : D → Prop} (h : FnN Tryz.prog 27 [rowsT L, strD sep] Q) : FnN Tryz.prog 27 [.lit 1 (L.map strE), strD sep] Q := by
  refine ⟨h.1, fun w B args' hB hr => h.2 w B args' hB (reps_one (l := []) (r := [strD sep]) (dleLit (fun y d hd => by simp [strE] at hd; subst hd; rfl)) hr)⟩
attribute [local irreducible] Fn FnN FnR OpVC DLe

def DgAt (n : Nat) (g : Nat × List Nat × Bool) : Prop := (g.2.2 = true → dgs n = dgs g.1 ++ g.2.1) ∧ (g.2.2 = false → g.2.1 = dgs n) ∧ g.1 ≤ n
theorem DgAt.step {n m : Nat} {out : List Nat} (hg : DgAt n (m, out, true)) : m ≤ n ∧ out.length ≤ (dgs n).length ∧ DgAt n (m / 10, (48 + m % 10) :: out, decide (0 < m / 10)) := by
  obtain ⟨h1, _, h3⟩ := hg
  have h1 := h1 rfl
  dsimp only at h1 h3
  refine ⟨h3, by rw [h1]; simp, fun g => ?_, fun g => ?_, by show m / 10 ≤ n; omega⟩
  · have g := of_decide_eq_true g
    dsimp only
    rw [h1, dgs_ge (n := m) (by omega)]
    simp
  · have g := of_decide_eq_false g
    dsimp only
    rw [h1, dgs_lt (n := m) (by omega), show m % 10 = m by omega]
    rfl
theorem digitsT_fn (n : Nat) (h : n < 4294967296) : Fn Tryz.prog 13 [u32D n] fun d => d = strD (dgs n) := by
  refine fnOf [] Tryz.func13 rfl (by kernel_rfl) (Nat.le_of_ble_eq_true rfl) ?_
  have hlen := dgs_len 9 n (by omega)
  conv => whnf
  refine ⟨Nat × List Nat × Bool, fun g => ⟨[(4, boolD g.2.2), (3, strD g.2.1), (0, u32D g.1)], [], 0, ([], 0)⟩,
    DgAt n, fun g => match g.2.2 with | true => g.1 + 1 | false => 0, ⟨(n, [], true), [], [], ?_, ⟨fun _ => by simp, fun h => (by cases h), Nat.le_refl _⟩⟩, ?_⟩
  · repeat' (first | exact trivial | exact .inl (DLe.refl _) | exact .inl (DLe.nil _ _) | (refine .inr ⟨rfl, _, ?_, rfl⟩; rfl) | exact rfl | exact .inl rfl | exact .inr ⟨rfl, rfl, rfl, rfl⟩ | exact Nat.zero_le _ | constructor)
  · rintro ⟨m, out, ok⟩ hg
    cases ok with
    | false =>
      dsimp only
      conv => whnf
      have hd : out = dgs n := hg.2.1 rfl
      rw [hd]
    | true =>
      obtain ⟨hm, ho, hnext⟩ := DgAt.step hg
      have e1 : IntKind.u8.wrap (IntKind.u32.wrap (48 + (m : Int).tmod 10)) = ((48 + m % 10 : Nat) : Int) := by
        rw [Int.tmod_eq_emod_of_nonneg (by omega), u32_small (by omega), u8_small (by omega)]; omega
      have e2 : IntKind.u32.wrap ((m : Int).tdiv 10) = ((m / 10 : Nat) : Int) := by
        rw [Int.tdiv_eq_ediv_of_nonneg (by omega), u32_small (by omega)]; omega
      have e3 : decide (0 < ((m / 10 : Nat) : Int)) = decide (0 < m / 10) := decide_eq_decide.2 (by omega)
      dsimp only
      conv => whnf
      refine ⟨by decide, ?_⟩
      conv => whnf
      (refine ⟨by decide, ?_⟩; conv => whnf)
      refine op_bytesStr (L := [((48 + m % 10 : Nat) : Int)]) ttH rfl rfl rfl rfl ?_ rfl ?_
      · exact congrArg (fun x => some [[u8D x]]) e1
      rw [bytesOf_str, show [((48 + m % 10 : Nat) : Int)].map Int.toNat = [48 + m % 10] from rfl]
      conv => whnf
      refine ⟨str_le (by simp; omega), ?_⟩
      rw [strB_append]
      conv => whnf
      refine ⟨by decide, ?_⟩
      conv => whnf
      rw [e2]
      conv => whnf
      rw [e3]
      refine ⟨(m / 10, (48 + m % 10) :: out, decide (0 < m / 10)), [], [], ?_, hnext, ?_⟩
      · repeat' (first | exact trivial | exact .inl (DLe.refl _) | exact .inl (DLe.nil _ _) | (refine .inr ⟨rfl, _, ?_, rfl⟩; rfl) | exact rfl | exact .inl rfl | exact .inr ⟨rfl, rfl, rfl, rfl⟩ | exact Nat.zero_le _ | constructor)
      · show (match decide (0 < m / 10) with | true => m / 10 + 1 | false => 0) < m + 1
        cases h9 : decide (0 < m / 10) with
        | true => have := of_decide_eq_true h9; show m / 10 + 1 < m + 1; omega
        | false => exact Nat.succ_pos _
theorem digitsT_some (n : Nat) (h : n < 4294967296) : Fn Tryz.prog 13 [u32D n] (someT 10) := (digitsT_fn n h).mono fun d hd => ⟨_, hd, dgs_byt n, dgs_len 9 n (by omega)⟩
theorem words_fn (L : List (List Nat)) (hL : ∀ x, x ∈ L → Byt x) (h1 : L.length ≤ 1000) (h2 : (joinN [32] L).length ≤ 1000000) : Fn Tryz.prog 14 [.lit 1 (L.map strE)] fun d => d = strD (joinN [32] L) := by
  have hj := joinLit (join_c L [32] hL (.cons (by decide) .nil) h1 h2)
  refine fnOf [] Tryz.func14 rfl (by kernel_rfl) (Nat.le_of_ble_eq_true rfl) ?_
  conv => whnf
  refine CallVC.look hj ?_ ?_
  · show [D.lit 1 ((L.map strE).map fun l => l.map (snapD 5 [])), _] = _
    rw [List.map_map]
    rfl
  rintro _ rfl
  conv => whnf

theorem many_fn (b : List Nat) (h : b.length ≤ 1000000) : Fn Tryz.prog 60 [octR b] (someT 10) := by
  refine fnOf [] Tryz.func60 rfl (by kernel_rfl) (Nat.le_of_ble_eq_true rfl) ?_
  have hd := digitsT_some b.length (by omega)
  have e : IntKind.u32.wrap ((b.length : Nat) : Int) = ((b.length : Nat) : Int) := u32_small (by omega)
  conv => whnf
  rw [e]
  refine CallVC.pure hd rfl ?_
  rintro _ ⟨l, rfl, h1, h2⟩
  conv => whnf
  exact ⟨l, rfl, h1, h2⟩
theorem flagsT_fn (n : Nat) (hn : n < 256) : Fn Tryz.prog 15 [u8D n] (someT 6) := by
  refine fnOf [] Tryz.func15 rfl (by kernel_rfl) (Nat.le_of_ble_eq_true rfl) ?_
  have hlit : Byt [83, 70, 82, 80, 65, 85] := byt_of (by decide)
  conv => whnf
  refine op_rangeStr (b := strB [83, 70, 82, 80, 65, 85]) ttH rfl rfl rfl ?_
  conv => whnf
  refine ⟨Nat × List Nat, fun g => ⟨[(8, .loc 1 0), (4, strD g.2), (3, .loc 0 0), (0, u8D n)], [(0, .cells 39 [u8D 2, u8D 1, u8D 4, u8D 8, u8D 16, u8D 32]), (1, strI (strB [83, 70, 82, 80, 65, 85]) g.1)], 2, ([], 0)⟩, fun g => g.1 ≤ 6 ∧ Byt g.2 ∧ g.2.length ≤ g.1, fun g => 6 - g.1, ⟨(0, []), [], [], ?_, Nat.zero_le _, .nil, Nat.zero_le _⟩, ?_⟩
  · repeat' (first | exact trivial | exact .inl (DLe.refl _) | exact .inl (DLe.nil _ _) | (refine .inr ⟨rfl, _, ?_, rfl⟩; rfl) | exact rfl | exact .inl rfl | exact .inr ⟨rfl, rfl, rfl, rfl⟩ | exact Nat.zero_le _ | constructor)
  rintro ⟨k, out⟩ ⟨hk, ho, hlen⟩
  dsimp only at hk ho hlen
  rcases (by omega : k = 0 ∨ k = 1 ∨ k = 2 ∨ k = 3 ∨ k = 4 ∨ k = 5 ∨ k = 6) with rfl | rfl | rfl | rfl | rfl | rfl | rfl
  · conv => whnf
    refine op_nextStr (b := strB [83, 70, 82, 80, 65, 85]) (pos := 0) (id := 1) rfl rfl rfl (fun c m hp hd => ?_) (fun hp => absurd (show 0 < (strB [83, 70, 82, 80, 65, 85]).size by rw [strB_size]; decide) hp)
    rw [decode_low hlit (p := 0) (x := 83) rfl (by decide)] at hd
    injection hd with h1 h2
    subst h1 h2
    conv => whnf
    refine ⟨by decide, ?_⟩
    conv => whnf
    refine Fork.intro (fun q => ?_) (fun q => ?_)
    · conv => whnf
      refine op_runeStr (n := 83) ttH rfl rfl rfl rfl (by decide) ?_
      conv => whnf
      refine ⟨str_le (by simp; omega), ?_⟩
      rw [strB_append]
      conv => whnf
      refine ⟨(1, out ++ [83]), [], [], ?_, ⟨Nat.le_of_ble_eq_true rfl, ho.append (.cons (by decide) .nil), by rw [List.length_append, List.length_singleton]; show out.length + 1 ≤ 1; omega⟩, Nat.le_of_ble_eq_true rfl⟩
      repeat' (first | exact trivial | exact .inl (DLe.refl _) | exact .inl (DLe.nil _ _) | (refine .inr ⟨rfl, _, ?_, rfl⟩; rfl) | exact rfl | exact .inl rfl | exact .inr ⟨rfl, rfl, rfl, rfl⟩ | exact Nat.zero_le _ | constructor)
    · conv => whnf
      refine ⟨(1, out), [], [], ?_, ⟨Nat.le_of_ble_eq_true rfl, ho, by show out.length ≤ 1; omega⟩, Nat.le_of_ble_eq_true rfl⟩
      repeat' (first | exact trivial | exact .inl (DLe.refl _) | exact .inl (DLe.nil _ _) | (refine .inr ⟨rfl, _, ?_, rfl⟩; rfl) | exact rfl | exact .inl rfl | exact .inr ⟨rfl, rfl, rfl, rfl⟩ | exact Nat.zero_le _ | constructor)
  · conv => whnf
    refine op_nextStr (b := strB [83, 70, 82, 80, 65, 85]) (pos := 1) (id := 1) rfl rfl rfl (fun c m hp hd => ?_) (fun hp => absurd (show 1 < (strB [83, 70, 82, 80, 65, 85]).size by rw [strB_size]; decide) hp)
    rw [decode_low hlit (p := 1) (x := 70) rfl (by decide)] at hd
    injection hd with h1 h2
    subst h1 h2
    conv => whnf
    refine ⟨by decide, ?_⟩
    conv => whnf
    refine Fork.intro (fun q => ?_) (fun q => ?_)
    · conv => whnf
      refine op_runeStr (n := 70) ttH rfl rfl rfl rfl (by decide) ?_
      conv => whnf
      refine ⟨str_le (by simp; omega), ?_⟩
      rw [strB_append]
      conv => whnf
      refine ⟨(2, out ++ [70]), [], [], ?_, ⟨Nat.le_of_ble_eq_true rfl, ho.append (.cons (by decide) .nil), by rw [List.length_append, List.length_singleton]; show out.length + 1 ≤ 2; omega⟩, Nat.le_of_ble_eq_true rfl⟩
      repeat' (first | exact trivial | exact .inl (DLe.refl _) | exact .inl (DLe.nil _ _) | (refine .inr ⟨rfl, _, ?_, rfl⟩; rfl) | exact rfl | exact .inl rfl | exact .inr ⟨rfl, rfl, rfl, rfl⟩ | exact Nat.zero_le _ | constructor)
    · conv => whnf
      refine ⟨(2, out), [], [], ?_, ⟨Nat.le_of_ble_eq_true rfl, ho, by show out.length ≤ 2; omega⟩, Nat.le_of_ble_eq_true rfl⟩
      repeat' (first | exact trivial | exact .inl (DLe.refl _) | exact .inl (DLe.nil _ _) | (refine .inr ⟨rfl, _, ?_, rfl⟩; rfl) | exact rfl | exact .inl rfl | exact .inr ⟨rfl, rfl, rfl, rfl⟩ | exact Nat.zero_le _ | constructor)
  · conv => whnf
    refine op_nextStr (b := strB [83, 70, 82, 80, 65, 85]) (pos := 2) (id := 1) rfl rfl rfl (fun c m hp hd => ?_) (fun hp => absurd (show 2 < (strB [83, 70, 82, 80, 65, 85]).size by rw [strB_size]; decide) hp)
    rw [decode_low hlit (p := 2) (x := 82) rfl (by decide)] at hd
    injection hd with h1 h2
    subst h1 h2
    conv => whnf
    refine ⟨by decide, ?_⟩
    conv => whnf
    refine Fork.intro (fun q => ?_) (fun q => ?_)
    · conv => whnf
      refine op_runeStr (n := 82) ttH rfl rfl rfl rfl (by decide) ?_
      conv => whnf
      refine ⟨str_le (by simp; omega), ?_⟩
      rw [strB_append]
      conv => whnf
      refine ⟨(3, out ++ [82]), [], [], ?_, ⟨Nat.le_of_ble_eq_true rfl, ho.append (.cons (by decide) .nil), by rw [List.length_append, List.length_singleton]; show out.length + 1 ≤ 3; omega⟩, Nat.le_of_ble_eq_true rfl⟩
      repeat' (first | exact trivial | exact .inl (DLe.refl _) | exact .inl (DLe.nil _ _) | (refine .inr ⟨rfl, _, ?_, rfl⟩; rfl) | exact rfl | exact .inl rfl | exact .inr ⟨rfl, rfl, rfl, rfl⟩ | exact Nat.zero_le _ | constructor)
    · conv => whnf
      refine ⟨(3, out), [], [], ?_, ⟨Nat.le_of_ble_eq_true rfl, ho, by show out.length ≤ 3; omega⟩, Nat.le_of_ble_eq_true rfl⟩
      repeat' (first | exact trivial | exact .inl (DLe.refl _) | exact .inl (DLe.nil _ _) | (refine .inr ⟨rfl, _, ?_, rfl⟩; rfl) | exact rfl | exact .inl rfl | exact .inr ⟨rfl, rfl, rfl, rfl⟩ | exact Nat.zero_le _ | constructor)
  · conv => whnf
    refine op_nextStr (b := strB [83, 70, 82, 80, 65, 85]) (pos := 3) (id := 1) rfl rfl rfl (fun c m hp hd => ?_) (fun hp => absurd (show 3 < (strB [83, 70, 82, 80, 65, 85]).size by rw [strB_size]; decide) hp)
    rw [decode_low hlit (p := 3) (x := 80) rfl (by decide)] at hd
    injection hd with h1 h2
    subst h1 h2
    conv => whnf
    refine ⟨by decide, ?_⟩
    conv => whnf
    refine Fork.intro (fun q => ?_) (fun q => ?_)
    · conv => whnf
      refine op_runeStr (n := 80) ttH rfl rfl rfl rfl (by decide) ?_
      conv => whnf
      refine ⟨str_le (by simp; omega), ?_⟩
      rw [strB_append]
      conv => whnf
      refine ⟨(4, out ++ [80]), [], [], ?_, ⟨Nat.le_of_ble_eq_true rfl, ho.append (.cons (by decide) .nil), by rw [List.length_append, List.length_singleton]; show out.length + 1 ≤ 4; omega⟩, Nat.le_of_ble_eq_true rfl⟩
      repeat' (first | exact trivial | exact .inl (DLe.refl _) | exact .inl (DLe.nil _ _) | (refine .inr ⟨rfl, _, ?_, rfl⟩; rfl) | exact rfl | exact .inl rfl | exact .inr ⟨rfl, rfl, rfl, rfl⟩ | exact Nat.zero_le _ | constructor)
    · conv => whnf
      refine ⟨(4, out), [], [], ?_, ⟨Nat.le_of_ble_eq_true rfl, ho, by show out.length ≤ 4; omega⟩, Nat.le_of_ble_eq_true rfl⟩
      repeat' (first | exact trivial | exact .inl (DLe.refl _) | exact .inl (DLe.nil _ _) | (refine .inr ⟨rfl, _, ?_, rfl⟩; rfl) | exact rfl | exact .inl rfl | exact .inr ⟨rfl, rfl, rfl, rfl⟩ | exact Nat.zero_le _ | constructor)
  · conv => whnf
    refine op_nextStr (b := strB [83, 70, 82, 80, 65, 85]) (pos := 4) (id := 1) rfl rfl rfl (fun c m hp hd => ?_) (fun hp => absurd (show 4 < (strB [83, 70, 82, 80, 65, 85]).size by rw [strB_size]; decide) hp)
    rw [decode_low hlit (p := 4) (x := 65) rfl (by decide)] at hd
    injection hd with h1 h2
    subst h1 h2
    conv => whnf
    refine ⟨by decide, ?_⟩
    conv => whnf
    refine Fork.intro (fun q => ?_) (fun q => ?_)
    · conv => whnf
      refine op_runeStr (n := 65) ttH rfl rfl rfl rfl (by decide) ?_
      conv => whnf
      refine ⟨str_le (by simp; omega), ?_⟩
      rw [strB_append]
      conv => whnf
      refine ⟨(5, out ++ [65]), [], [], ?_, ⟨Nat.le_of_ble_eq_true rfl, ho.append (.cons (by decide) .nil), by rw [List.length_append, List.length_singleton]; show out.length + 1 ≤ 5; omega⟩, Nat.le_of_ble_eq_true rfl⟩
      repeat' (first | exact trivial | exact .inl (DLe.refl _) | exact .inl (DLe.nil _ _) | (refine .inr ⟨rfl, _, ?_, rfl⟩; rfl) | exact rfl | exact .inl rfl | exact .inr ⟨rfl, rfl, rfl, rfl⟩ | exact Nat.zero_le _ | constructor)
    · conv => whnf
      refine ⟨(5, out), [], [], ?_, ⟨Nat.le_of_ble_eq_true rfl, ho, by show out.length ≤ 5; omega⟩, Nat.le_of_ble_eq_true rfl⟩
      repeat' (first | exact trivial | exact .inl (DLe.refl _) | exact .inl (DLe.nil _ _) | (refine .inr ⟨rfl, _, ?_, rfl⟩; rfl) | exact rfl | exact .inl rfl | exact .inr ⟨rfl, rfl, rfl, rfl⟩ | exact Nat.zero_le _ | constructor)
  · conv => whnf
    refine op_nextStr (b := strB [83, 70, 82, 80, 65, 85]) (pos := 5) (id := 1) rfl rfl rfl (fun c m hp hd => ?_) (fun hp => absurd (show 5 < (strB [83, 70, 82, 80, 65, 85]).size by rw [strB_size]; decide) hp)
    rw [decode_low hlit (p := 5) (x := 85) rfl (by decide)] at hd
    injection hd with h1 h2
    subst h1 h2
    conv => whnf
    refine ⟨by decide, ?_⟩
    conv => whnf
    refine Fork.intro (fun q => ?_) (fun q => ?_)
    · conv => whnf
      refine op_runeStr (n := 85) ttH rfl rfl rfl rfl (by decide) ?_
      conv => whnf
      refine ⟨str_le (by simp; omega), ?_⟩
      rw [strB_append]
      conv => whnf
      refine ⟨(6, out ++ [85]), [], [], ?_, ⟨Nat.le_of_ble_eq_true rfl, ho.append (.cons (by decide) .nil), by rw [List.length_append, List.length_singleton]; show out.length + 1 ≤ 6; omega⟩, Nat.le_of_ble_eq_true rfl⟩
      repeat' (first | exact trivial | exact .inl (DLe.refl _) | exact .inl (DLe.nil _ _) | (refine .inr ⟨rfl, _, ?_, rfl⟩; rfl) | exact rfl | exact .inl rfl | exact .inr ⟨rfl, rfl, rfl, rfl⟩ | exact Nat.zero_le _ | constructor)
    · conv => whnf
      refine ⟨(6, out), [], [], ?_, ⟨Nat.le_of_ble_eq_true rfl, ho, by show out.length ≤ 6; omega⟩, Nat.le_of_ble_eq_true rfl⟩
      repeat' (first | exact trivial | exact .inl (DLe.refl _) | exact .inl (DLe.nil _ _) | (refine .inr ⟨rfl, _, ?_, rfl⟩; rfl) | exact rfl | exact .inl rfl | exact .inr ⟨rfl, rfl, rfl, rfl⟩ | exact Nat.zero_le _ | constructor)
  · conv => whnf
    refine op_nextStr (b := strB [83, 70, 82, 80, 65, 85]) (pos := 6) (id := 1) rfl rfl rfl (fun c m hp hd => absurd hp (by rw [strB_size]; decide)) (fun hp => ?_)
    conv => whnf
    refine Fork.intro (fun q => ?_) (fun q => ?_)
    · conv => whnf
      exact ⟨[45], rfl, .cons (by decide) .nil, by decide⟩
    · conv => whnf
      exact ⟨out, rfl, ho, hlen⟩
end Go.Proofs.YtgodclgcfpmloaaGreatDoor.V
