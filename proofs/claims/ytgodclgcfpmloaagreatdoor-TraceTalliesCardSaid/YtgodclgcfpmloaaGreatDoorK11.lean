/-
  What a packet, a frame is, in words: the document's line begins so, by value. Conditions: bytes, not too many; numbers of their types. (printed by gen_tre.py)
  What a packet, a frame is: the document's second word, by value. Conditions: bytes, not too many; numbers of their types. (printed by gen_trf.py)
-/
import Derived.Test.YtgodclgcfpmloaaGreatDoorK10
import Derived.Test.YtgodclgcfpmloaaGreatDoorK9
namespace Go.Proofs.YtgodclgcfpmloaaGreatDoor.V
open Go.RowKit
attribute [local irreducible] Fn FnN FnR OpVC DLe

def isT (k : Nat) (s : ByteArray) : Prop := ∃ l, s = strB l ∧ Byt l ∧ l.length ≤ k
def stB (w : List Nat) (k : Nat) (s : ByteArray) : Prop := ∃ r, s = strB (w ++ 32 :: r) ∧ Byt r ∧ r.length ≤ k
theorem isT.size {k : Nat} {s : ByteArray} (h : isT k s) : s.size ≤ k := by
  obtain ⟨l, rfl, _, h⟩ := h
  rw [strB_size]; exact h
theorem isT.cat {j k : Nat} {s t : ByteArray} (h : isT j s) (h' : isT k t) : isT (j + k) (s ++ t) := by
  obtain ⟨l, rfl, h1, h2⟩ := h
  obtain ⟨m, rfl, h3, h4⟩ := h'
  exact ⟨l ++ m, strB_append l m, h1.append h3, by rw [List.length_append]; omega⟩
theorem stB.cat {w : List Nat} {j k : Nat} {s t : ByteArray} (h : stB w j s) (h' : isT k t) : stB w (j + k) (s ++ t) := by
  obtain ⟨l, rfl, h1, h2⟩ := h
  obtain ⟨m, rfl, h3, h4⟩ := h'
  exact ⟨l ++ m, by rw [strB_append, List.append_assoc]; rfl, h1.append h3, by rw [List.length_append]; omega⟩
theorem stB.isT {w : List Nat} {j : Nat} {s : ByteArray} (hw : Byt w ∧ w.length ≤ 10) (h : stB w j s) : isT (j + 11) s := by
  obtain ⟨l, rfl, h1, h2⟩ := h
  exact ⟨_, rfl, hw.1.append (.cons (by decide) h1), by have := hw.2; rw [List.length_append, List.length_cons]; omega⟩
theorem cat_le {j k : Nat} {s t : ByteArray} (h : isT j s) (h' : isT k t) (hj : j + k ≤ 1000000000) : ((s.size + t.size : Nat) : Int) ≤ 9223372036854775807 := by
  have := h.size
  have := h'.size
  omega
theorem someT.str {k : Nat} {d : D} (h : someT k d) : ∃ s, d = .v (.string s) ∧ isT k s := by
  obtain ⟨l, rfl, h1, h2⟩ := h
  exact ⟨_, rfl, l, rfl, h1, h2⟩
theorem starts.str {w : List Nat} {k : Nat} {d : D} (h : starts w k d) : ∃ s, d = .v (.string s) ∧ stB w k s := by
  obtain ⟨l, rfl, h1, h2⟩ := h
  exact ⟨_, rfl, l, rfl, h1, h2⟩
theorem stB.starts {w : List Nat} {k j : Nat} {s : ByteArray} (h : stB w k s) (hj : k ≤ j) : starts w j (.v (.string s)) := by
  obtain ⟨r, rfl, h1, h2⟩ := h
  exact ⟨r, rfl, h1, by omega⟩
theorem isT.someT {k j : Nat} {s : ByteArray} (h : isT k s) (hj : k ≤ j) : someT j (.v (.string s)) := by
  obtain ⟨r, rfl, h1, h2⟩ := h
  exact ⟨r, rfl, h1, by omega⟩
theorem litT (l : List Nat) (h : l.all (fun x => decide (x < 256)) = true) : isT l.length (strB l) := ⟨l, rfl, byt_of h, Nat.le_refl _⟩
theorem rAddrT_fn (a : Nat) (h : a < 4294967296) : Fn Tryz.prog 21 [u32D a] (someT 15) := (rtext_fn a h).mono fun d hd => ⟨_, hd, txt_byt a, txt_len a⟩
theorem rMacT_fn (m : List Nat) (hm : MacOk m) : Fn Tryz.prog 22 [.agg (m6D m)] (someT 17) := (rmactext_fn m hm).mono fun d hd => ⟨_, hd, mtxt_byt hm, by rw [mtxt_len hm]; exact Nat.le_refl _⟩
theorem rDigits_fn (n : Nat) (h : n < 4294967296) : Fn Tryz.prog 10 [u32D n] fun d => d = strD (dgs n) := by
  refine fnOf [] Tryz.func10 rfl (by kernel_rfl) (Nat.le_of_ble_eq_true rfl) ?_
  have hlen := dgs_len 9 n (by omega)
  conv => whnf
  refine ⟨Nat × List Nat, fun g => ⟨[(3, strD g.2), (0, .v (.int .u32 g.1))], [], 0, ([], 0)⟩, fun g => g.1 ≤ n ∧ dgs n = dgs g.1 ++ g.2, fun g => g.1, ⟨(n, []), [], [], ?_, Nat.le_refl _, (List.append_nil _).symm⟩, ?_⟩
  · repeat' (first | exact trivial | exact .inl (DLe.refl _) | exact .inl (DLe.nil _ _) | (refine .inr ⟨rfl, _, ?_, rfl⟩; rfl) | exact rfl | exact .inl rfl | exact .inr ⟨rfl, rfl, rfl, rfl⟩ | exact Nat.zero_le _ | constructor)
  · rintro ⟨m, out⟩ ⟨hm, he⟩
    dsimp only at hm he
    have ho : out.length ≤ 10 := by have := congrArg List.length he; rw [List.length_append] at this; omega
    dsimp only
    conv => whnf
    refine Fork.intro (fun h1 => ?_) (fun h1 => ?_)
    · have h1 := of_decide_eq_true h1
      have e1 : IntKind.u8.wrap (IntKind.u32.wrap (48 + (m : Int).tmod 10)) = ((48 + m % 10 : Nat) : Int) := by
        rw [Int.tmod_eq_emod_of_nonneg (by omega), u32_small (by omega), u8_small (by omega)]; omega
      have e2 : IntKind.u32.wrap ((m : Int).tdiv 10) = ((m / 10 : Nat) : Int) := by
        rw [Int.tdiv_eq_ediv_of_nonneg (by omega), u32_small (by omega)]; omega
      conv => whnf
      refine ⟨by decide, ?_⟩
      conv => whnf
      (refine ⟨by decide, ?_⟩; conv => whnf)
      refine op_bytesStr (L := [((48 + m % 10 : Nat) : Int)]) ttH rfl rfl rfl rfl ?_ rfl ?_
      · exact congrArg (fun x => some [[u8D x]]) e1
      rw [bytesOf_str, show [((48 + m % 10 : Nat) : Int)].map Int.toNat = [48 + m % 10] from rfl]
      conv => whnf
      refine ⟨str_le (by simp; omega), ?_⟩
      rw [strB_append]
      conv => whnf
      refine ⟨by decide, ?_⟩
      conv => whnf
      rw [e2]
      refine ⟨(m / 10, (48 + m % 10) :: out), [], [], ?_, ⟨by show m / 10 ≤ n; omega, ?_⟩, by show m / 10 < m; omega⟩
      · repeat' (first | exact trivial | exact .inl (DLe.refl _) | exact .inl (DLe.nil _ _) | (refine .inr ⟨rfl, _, ?_, rfl⟩; rfl) | exact rfl | exact .inl rfl | exact .inr ⟨rfl, rfl, rfl, rfl⟩ | exact Nat.zero_le _ | constructor)
      · show dgs n = dgs (m / 10) ++ (48 + m % 10) :: out
        rw [he, dgs_ge (n := m) (by omega)]; simp
    · have h1 := of_decide_eq_false h1
      have e1 : IntKind.u8.wrap (IntKind.u32.wrap (48 + (m : Int))) = ((48 + m : Nat) : Int) := by
        rw [u32_small (by omega), u8_small (by omega)]; omega
      conv => whnf
      (refine ⟨by decide, ?_⟩; conv => whnf)
      refine op_bytesStr (L := [((48 + m : Nat) : Int)]) ttH rfl rfl rfl rfl ?_ rfl ?_
      · exact congrArg (fun x => some [[u8D x]]) e1
      rw [bytesOf_str, show [((48 + m : Nat) : Int)].map Int.toNat = [48 + m] from rfl]
      conv => whnf
      refine ⟨str_le (by simp; omega), ?_⟩
      rw [strB_append]
      conv => whnf
      rw [he, dgs_lt (n := m) (by omega)]
theorem rNum_fn (n : Nat) (h : n < 4294967296) : Fn Tryz.prog 6 [intD n] fun d => d = strD (dgs n) := by
  refine fnOf [] Tryz.func6 rfl (by kernel_rfl) (Nat.le_of_ble_eq_true rfl) ?_
  have hd := rDigits_fn n h
  have e : IntKind.u32.wrap (n : Int) = (n : Int) := u32_small (by omega)
  conv => whnf
  rw [e]
  (refine CallVC.pure (hd) rfl ?_; rintro _ rfl; conv => whnf)
theorem rNumT_fn (n : Nat) (h : n < 4294967296) : Fn Tryz.prog 6 [intD n] (someT 10) := (rNum_fn n h).mono fun d hd => ⟨_, hd, dgs_byt n, dgs_len 9 n (by omega)⟩
theorem rEndT_fn (a p : Nat) (h : a < 4294967296) (hp : p < 65536) : Fn Tryz.prog 67 [u32D a, u16D p] (someT 30) := by
  refine fnOf [] Tryz.func67 rfl (by kernel_rfl) (Nat.le_of_ble_eq_true rfl) ?_
  have ha := rAddrT_fn a h
  have hd := rNumT_fn p (by omega)
  have e : IntKind.i64.wrap (p : Int) = (p : Int) := IntWalk.i64_in _ (by omega)
  conv => whnf
  refine CallVC.pure ha rfl ?_
  intro d hyp
  obtain ⟨s1, rfl, hs1⟩ := hyp.str
  conv => whnf
  refine ⟨cat_le hs1 (litT [58] rfl) (by decide), ?_⟩
  have hc2 := hs1.cat (litT [58] rfl)
  generalize hc2e : s1 ++ (strB [58]) = c2 at hc2
  try rw [show (s1 : ByteArray) ++ ⟨#[58]⟩ = c2 from hc2e]
  conv => whnf
  rw [e]
  refine CallVC.pure hd rfl ?_
  intro d hyp
  obtain ⟨s3, rfl, hs3⟩ := hyp.str
  conv => whnf
  refine ⟨cat_le hc2 hs3 (by decide), ?_⟩
  have hc4 := hc2.cat hs3
  generalize hc4e : c2 ++ s3 = c4 at hc4
  try rw [show (c2 : ByteArray) ++ s3 = c4 from hc4e]
  conv => whnf
  exact hc4.someT (by decide)
theorem rEnds_fn (p : Pkt) (h : p.ok) : Fn Tryz.prog 39 [.agg (pktD p)] (someT 31) := by
  refine fnOf [(1, [0, 1, 4, 5, 2, 3, 6, 7, 8])] Tryz.func39 rfl (by kernel_rfl) (Nat.le_of_ble_eq_true rfl) ?_
  have ha := rAddrT_fn p.src h.src
  have hd := rAddrT_fn p.dst h.dst
  conv => whnf
  refine CallVC.pure ha rfl ?_
  intro d hyp
  obtain ⟨s1, rfl, hs1⟩ := hyp.str
  conv => whnf
  refine ⟨cat_le hs1 (litT [32] rfl) (by decide), ?_⟩
  have hc2 := hs1.cat (litT [32] rfl)
  generalize hc2e : s1 ++ (strB [32]) = c2 at hc2
  try rw [show (s1 : ByteArray) ++ ⟨#[32]⟩ = c2 from hc2e]
  conv => whnf
  refine CallVC.pure hd rfl ?_
  intro d hyp
  obtain ⟨s3, rfl, hs3⟩ := hyp.str
  conv => whnf
  refine ⟨cat_le hc2 hs3 (by decide), ?_⟩
  have hc4 := hc2.cat hs3
  generalize hc4e : c2 ++ s3 = c4 at hc4
  try rw [show (c2 : ByteArray) ++ s3 = c4 from hc4e]
  conv => whnf
  exact hc4.someT (by decide)
theorem rBit_fn (n k : Nat) (hn : n < 256) (hk : 0 < k ∧ k < 256) : Fn Tryz.prog 96 [u8D n, intD k] fun d => d = boolD (decide (n / k % 2 = 1)) := by
  refine fnOf [] Tryz.func96 rfl (by kernel_rfl) (Nat.le_of_ble_eq_true rfl) ?_
  have hle : n / k ≤ n := Nat.div_le_self n k
  have e1 : IntKind.i64.wrap ((IntKind.i64.wrap (n : Int)).tdiv (k : Int)) = ((n / k : Nat) : Int) := by
    rw [IntWalk.i64_in (n : Int) (by omega), Int.tdiv_eq_ediv_of_nonneg (by omega)]
    show IntKind.i64.wrap ((n / k : Nat) : Int) = _
    generalize n / k = m at *
    rw [IntWalk.i64_in _ (by omega)]
  have e2 : ((n / k : Nat) : Int).tmod 2 = ((n / k % 2 : Nat) : Int) := by rw [Int.tmod_eq_emod_of_nonneg (Int.natCast_nonneg _)]; rfl
  conv => whnf
  refine ⟨by omega, ?_⟩
  conv => whnf
  rw [e1]
  refine ⟨by decide, ?_⟩
  conv => whnf
  rw [e2]
  exact congrArg boolD (decide_eq_decide.2 (by omega))
set_option maxHeartbeats 1000000 in
theorem rFlags_fn (n : Nat) (hn : n < 256) : Fn Tryz.prog 69 [u8D n] (someT 6) := by
  refine fnOf [] Tryz.func69 rfl (by kernel_rfl) (Nat.le_of_ble_eq_true rfl) ?_
  have hb := fun k hk => rBit_fn n k hn hk
  conv => whnf
  (refine ⟨Nat.le_of_ble_eq_true rfl, ?_⟩; conv => whnf)
  refine ⟨Nat × ByteArray, fun g => ⟨[(8, intD g.1), (7, intD 6), (6, .lit 1 [[intD 2], [intD 1], [intD 4], [intD 8], [intD 16], [intD 32]]), (3, .v (.string g.2)), (0, u8D n)], [], 0, ([], 0)⟩, fun g => g.1 ≤ 6 ∧ isT g.1 g.2, fun g => 6 - g.1, ⟨(0, strB []), [], [], ?_, Nat.zero_le _, ⟨[], rfl, .nil, Nat.le_refl _⟩⟩, ?_⟩
  · repeat' (first | exact trivial | exact .inl (DLe.refl _) | exact .inl (DLe.nil _ _) | (refine .inr ⟨rfl, _, ?_, rfl⟩; rfl) | exact rfl | exact .inl rfl | exact .inr ⟨rfl, rfl, rfl, rfl⟩ | exact Nat.zero_le _ | constructor)
  rintro ⟨k, s⟩ ⟨hk, hs⟩
  dsimp only at hk hs
  rcases (by omega : k = 0 ∨ k = 1 ∨ k = 2 ∨ k = 3 ∨ k = 4 ∨ k = 5 ∨ k = 6) with rfl | rfl | rfl | rfl | rfl | rfl | rfl
  · conv => whnf
    refine ⟨rfl, ?_⟩
    conv => whnf
    refine CallVC.pure (hb 2 (by decide)) rfl ?_
    rintro _ rfl
    cases hq : decide (n / 2 % 2 = 1) with
    | true =>
      conv => whnf
      refine ⟨cat_le hs (litT [83] rfl) (by decide), ?_⟩
      have hs2 := hs.cat (litT [83] rfl)
      generalize he : s ++ strB [83] = s2 at hs2
      rw [show s ++ (⟨#[83]⟩ : ByteArray) = s2 from he]
      conv => whnf
      refine ⟨(1, s2), [], [], ?_, ⟨Nat.le_of_ble_eq_true rfl, hs2⟩, Nat.le_of_ble_eq_true rfl⟩
      repeat' (first | exact trivial | exact .inl (DLe.refl _) | exact .inl (DLe.nil _ _) | (refine .inr ⟨rfl, _, ?_, rfl⟩; rfl) | exact rfl | exact .inl rfl | exact .inr ⟨rfl, rfl, rfl, rfl⟩ | exact Nat.zero_le _ | constructor)
    | false =>
      conv => whnf
      refine ⟨(1, s), [], [], ?_, ⟨Nat.le_of_ble_eq_true rfl, by obtain ⟨l, h1, h2, h3⟩ := hs; exact ⟨l, h1, h2, by show l.length ≤ 1; omega⟩⟩, Nat.le_of_ble_eq_true rfl⟩
      repeat' (first | exact trivial | exact .inl (DLe.refl _) | exact .inl (DLe.nil _ _) | (refine .inr ⟨rfl, _, ?_, rfl⟩; rfl) | exact rfl | exact .inl rfl | exact .inr ⟨rfl, rfl, rfl, rfl⟩ | exact Nat.zero_le _ | constructor)
  · conv => whnf
    refine ⟨rfl, ?_⟩
    conv => whnf
    refine CallVC.pure (hb 1 (by decide)) rfl ?_
    rintro _ rfl
    cases hq : decide (n / 1 % 2 = 1) with
    | true =>
      conv => whnf
      refine ⟨cat_le hs (litT [70] rfl) (by decide), ?_⟩
      have hs2 := hs.cat (litT [70] rfl)
      generalize he : s ++ strB [70] = s2 at hs2
      rw [show s ++ (⟨#[70]⟩ : ByteArray) = s2 from he]
      conv => whnf
      refine ⟨(2, s2), [], [], ?_, ⟨Nat.le_of_ble_eq_true rfl, hs2⟩, Nat.le_of_ble_eq_true rfl⟩
      repeat' (first | exact trivial | exact .inl (DLe.refl _) | exact .inl (DLe.nil _ _) | (refine .inr ⟨rfl, _, ?_, rfl⟩; rfl) | exact rfl | exact .inl rfl | exact .inr ⟨rfl, rfl, rfl, rfl⟩ | exact Nat.zero_le _ | constructor)
    | false =>
      conv => whnf
      refine ⟨(2, s), [], [], ?_, ⟨Nat.le_of_ble_eq_true rfl, by obtain ⟨l, h1, h2, h3⟩ := hs; exact ⟨l, h1, h2, by show l.length ≤ 2; omega⟩⟩, Nat.le_of_ble_eq_true rfl⟩
      repeat' (first | exact trivial | exact .inl (DLe.refl _) | exact .inl (DLe.nil _ _) | (refine .inr ⟨rfl, _, ?_, rfl⟩; rfl) | exact rfl | exact .inl rfl | exact .inr ⟨rfl, rfl, rfl, rfl⟩ | exact Nat.zero_le _ | constructor)
  · conv => whnf
    refine ⟨rfl, ?_⟩
    conv => whnf
    refine CallVC.pure (hb 4 (by decide)) rfl ?_
    rintro _ rfl
    cases hq : decide (n / 4 % 2 = 1) with
    | true =>
      conv => whnf
      refine ⟨cat_le hs (litT [82] rfl) (by decide), ?_⟩
      have hs2 := hs.cat (litT [82] rfl)
      generalize he : s ++ strB [82] = s2 at hs2
      rw [show s ++ (⟨#[82]⟩ : ByteArray) = s2 from he]
      conv => whnf
      refine ⟨(3, s2), [], [], ?_, ⟨Nat.le_of_ble_eq_true rfl, hs2⟩, Nat.le_of_ble_eq_true rfl⟩
      repeat' (first | exact trivial | exact .inl (DLe.refl _) | exact .inl (DLe.nil _ _) | (refine .inr ⟨rfl, _, ?_, rfl⟩; rfl) | exact rfl | exact .inl rfl | exact .inr ⟨rfl, rfl, rfl, rfl⟩ | exact Nat.zero_le _ | constructor)
    | false =>
      conv => whnf
      refine ⟨(3, s), [], [], ?_, ⟨Nat.le_of_ble_eq_true rfl, by obtain ⟨l, h1, h2, h3⟩ := hs; exact ⟨l, h1, h2, by show l.length ≤ 3; omega⟩⟩, Nat.le_of_ble_eq_true rfl⟩
      repeat' (first | exact trivial | exact .inl (DLe.refl _) | exact .inl (DLe.nil _ _) | (refine .inr ⟨rfl, _, ?_, rfl⟩; rfl) | exact rfl | exact .inl rfl | exact .inr ⟨rfl, rfl, rfl, rfl⟩ | exact Nat.zero_le _ | constructor)
  · conv => whnf
    refine ⟨rfl, ?_⟩
    conv => whnf
    refine CallVC.pure (hb 8 (by decide)) rfl ?_
    rintro _ rfl
    cases hq : decide (n / 8 % 2 = 1) with
    | true =>
      conv => whnf
      refine ⟨cat_le hs (litT [80] rfl) (by decide), ?_⟩
      have hs2 := hs.cat (litT [80] rfl)
      generalize he : s ++ strB [80] = s2 at hs2
      rw [show s ++ (⟨#[80]⟩ : ByteArray) = s2 from he]
      conv => whnf
      refine ⟨(4, s2), [], [], ?_, ⟨Nat.le_of_ble_eq_true rfl, hs2⟩, Nat.le_of_ble_eq_true rfl⟩
      repeat' (first | exact trivial | exact .inl (DLe.refl _) | exact .inl (DLe.nil _ _) | (refine .inr ⟨rfl, _, ?_, rfl⟩; rfl) | exact rfl | exact .inl rfl | exact .inr ⟨rfl, rfl, rfl, rfl⟩ | exact Nat.zero_le _ | constructor)
    | false =>
      conv => whnf
      refine ⟨(4, s), [], [], ?_, ⟨Nat.le_of_ble_eq_true rfl, by obtain ⟨l, h1, h2, h3⟩ := hs; exact ⟨l, h1, h2, by show l.length ≤ 4; omega⟩⟩, Nat.le_of_ble_eq_true rfl⟩
      repeat' (first | exact trivial | exact .inl (DLe.refl _) | exact .inl (DLe.nil _ _) | (refine .inr ⟨rfl, _, ?_, rfl⟩; rfl) | exact rfl | exact .inl rfl | exact .inr ⟨rfl, rfl, rfl, rfl⟩ | exact Nat.zero_le _ | constructor)
  · conv => whnf
    refine ⟨rfl, ?_⟩
    conv => whnf
    refine CallVC.pure (hb 16 (by decide)) rfl ?_
    rintro _ rfl
    cases hq : decide (n / 16 % 2 = 1) with
    | true =>
      conv => whnf
      refine ⟨cat_le hs (litT [65] rfl) (by decide), ?_⟩
      have hs2 := hs.cat (litT [65] rfl)
      generalize he : s ++ strB [65] = s2 at hs2
      rw [show s ++ (⟨#[65]⟩ : ByteArray) = s2 from he]
      conv => whnf
      refine ⟨(5, s2), [], [], ?_, ⟨Nat.le_of_ble_eq_true rfl, hs2⟩, Nat.le_of_ble_eq_true rfl⟩
      repeat' (first | exact trivial | exact .inl (DLe.refl _) | exact .inl (DLe.nil _ _) | (refine .inr ⟨rfl, _, ?_, rfl⟩; rfl) | exact rfl | exact .inl rfl | exact .inr ⟨rfl, rfl, rfl, rfl⟩ | exact Nat.zero_le _ | constructor)
    | false =>
      conv => whnf
      refine ⟨(5, s), [], [], ?_, ⟨Nat.le_of_ble_eq_true rfl, by obtain ⟨l, h1, h2, h3⟩ := hs; exact ⟨l, h1, h2, by show l.length ≤ 5; omega⟩⟩, Nat.le_of_ble_eq_true rfl⟩
      repeat' (first | exact trivial | exact .inl (DLe.refl _) | exact .inl (DLe.nil _ _) | (refine .inr ⟨rfl, _, ?_, rfl⟩; rfl) | exact rfl | exact .inl rfl | exact .inr ⟨rfl, rfl, rfl, rfl⟩ | exact Nat.zero_le _ | constructor)
  · conv => whnf
    refine ⟨rfl, ?_⟩
    conv => whnf
    refine CallVC.pure (hb 32 (by decide)) rfl ?_
    rintro _ rfl
    cases hq : decide (n / 32 % 2 = 1) with
    | true =>
      conv => whnf
      refine ⟨cat_le hs (litT [85] rfl) (by decide), ?_⟩
      have hs2 := hs.cat (litT [85] rfl)
      generalize he : s ++ strB [85] = s2 at hs2
      rw [show s ++ (⟨#[85]⟩ : ByteArray) = s2 from he]
      conv => whnf
      refine ⟨(6, s2), [], [], ?_, ⟨Nat.le_of_ble_eq_true rfl, hs2⟩, Nat.le_of_ble_eq_true rfl⟩
      repeat' (first | exact trivial | exact .inl (DLe.refl _) | exact .inl (DLe.nil _ _) | (refine .inr ⟨rfl, _, ?_, rfl⟩; rfl) | exact rfl | exact .inl rfl | exact .inr ⟨rfl, rfl, rfl, rfl⟩ | exact Nat.zero_le _ | constructor)
    | false =>
      conv => whnf
      refine ⟨(6, s), [], [], ?_, ⟨Nat.le_of_ble_eq_true rfl, by obtain ⟨l, h1, h2, h3⟩ := hs; exact ⟨l, h1, h2, by show l.length ≤ 6; omega⟩⟩, Nat.le_of_ble_eq_true rfl⟩
      repeat' (first | exact trivial | exact .inl (DLe.refl _) | exact .inl (DLe.nil _ _) | (refine .inr ⟨rfl, _, ?_, rfl⟩; rfl) | exact rfl | exact .inl rfl | exact .inr ⟨rfl, rfl, rfl, rfl⟩ | exact Nat.zero_le _ | constructor)
  · conv => whnf
    refine Fork.intro (fun q => ?_) (fun q => ?_)
    · conv => whnf
      exact ⟨[45], rfl, .cons (by decide) .nil, by decide⟩
    · conv => whnf
      exact hs.someT (Nat.le_refl _)
set_option maxHeartbeats 4000000 in
theorem rPlain_fn (p : Pkt) (h : p.ok) (hl : p.data.length ≤ 100000) : Fn Tryz.prog 38 [.agg (pktD p)] (starts (kindPl p) 561) := by
  refine fnOf [(4, [0, 4, 5, 10, 11, 6, 12, 1, 2, 3, 7, 8, 9, 13, 14, 15]), (8, [0, 1, 2, 3, 7, 8, 9, 10, 14, 15, 16, 4, 5, 6, 11, 12, 13, 17, 18, 19]), (12, [0, 1, 2, 3, 7, 8, 9, 10, 14, 15, 19, 20, 24, 25, 29, 30, 31, 4, 5, 6, 11, 12, 13, 16, 17, 18, 21, 22, 23, 26, 27, 28, 32, 33, 34]), (13, [0, 4, 5, 6, 1, 2, 3, 7, 8, 9])] Tryz.func38 rfl (by kernel_rfl) (Nat.le_of_ble_eq_true rfl) ?_
  have he := rEnds_fn p h
  have hi := rParseI_fn p.data h.data hl
  have hu := rParseU_fn p.src p.dst p.data h.src h.dst h.data hl
  have ht := rParseT_fn p.src p.dst p.data h.src h.dst h.data hl
  obtain ⟨i1, i2⟩ := icm_lt p.data h.data
  obtain ⟨u1, u2⟩ := dgm_lt p.src p.dst p.data
  have u3 := dgm_more p.src p.dst p.data
  obtain ⟨t1, t2, t3⟩ := seg_lt p.src p.dst p.data h.data
  obtain ⟨t4, t5, t6⟩ := seg_more p.src p.dst p.data h.data
  have hpr := h.proto
  have hnp := rNumT_fn p.proto (by omega)
  have ep : IntKind.i64.wrap (p.proto : Int) = (p.proto : Int) := IntWalk.i64_in _ (by omega)
  have w4 := word_ok
  unfold kindPl bodyOf bodyI bodyU bodyT
  generalize parseI p.data = I at *
  generalize parseU p.src p.dst p.data = U at *
  generalize parseT p.src p.dst p.data = T at *
  obtain ⟨I, ie⟩ := I
  obtain ⟨U, ue⟩ := U
  obtain ⟨T, te⟩ := T
  dsimp only at *
  conv => whnf
  refine Fork.intro (fun q1 => ?_) (fun q1 => ?_)
  · have q1 : p.proto = 1 := by have := of_decide_eq_true q1; omega
    rw [decide_eq_true q1]
    have hn1 := rNumT_fn I.type (by omega)
    have hn2 := rNumT_fn I.code (by omega)
    have e1 : IntKind.i64.wrap (I.type : Int) = (I.type : Int) := IntWalk.i64_in _ (by omega)
    have e2 : IntKind.i64.wrap (I.code : Int) = (I.code : Int) := IntWalk.i64_in _ (by omega)
    conv => whnf
    (refine CallVC.pure (hi) rfl ?_; rintro _ rfl; conv => whnf)
    refine Fork.intro (fun q2 => ?_) (fun q2 => ?_)
    rotate_left
    · have q2 : ¬ ie = 0 := of_decide_eq_false q2
      rw [decide_eq_false q2]
      conv => whnf
      refine Fork.intro (fun q => absurd (show (p.proto : Int) = 17 from of_decide_eq_true q) (by omega)) (fun _ => ?_)
      conv => whnf
      refine Fork.intro (fun q => absurd (show (p.proto : Int) = 6 from of_decide_eq_true q) (by omega)) (fun _ => ?_)
      conv => whnf
      rw [ep]
      refine CallVC.pure he rfl ?_
      intro d hyp
      obtain ⟨s1, rfl, hs1⟩ := hyp.str
      conv => whnf
      refine ⟨cat_le (litT [105, 112, 32] rfl) hs1 (by decide), ?_⟩
      have hc2 : stB wIp 31 (strB [105, 112, 32] ++ s1) := stB.cat ⟨[], rfl, .nil, Nat.zero_le _⟩ hs1
      generalize hc2e : (strB [105, 112, 32]) ++ s1 = c2 at hc2
      try rw [show (⟨#[105, 112, 32]⟩ : ByteArray) ++ s1 = c2 from hc2e]
      conv => whnf
      refine ⟨cat_le (hc2.isT w4.2.2.2.1) (litT [32] rfl) (by decide), ?_⟩
      have hc3 := hc2.cat (litT [32] rfl)
      generalize hc3e : c2 ++ (strB [32]) = c3 at hc3
      try rw [show (c2 : ByteArray) ++ ⟨#[32]⟩ = c3 from hc3e]
      conv => whnf
      refine CallVC.pure hnp rfl ?_
      intro d hyp
      obtain ⟨s4, rfl, hs4⟩ := hyp.str
      conv => whnf
      refine ⟨cat_le (hc3.isT w4.2.2.2.1) hs4 (by decide), ?_⟩
      have hc5 := hc3.cat hs4
      generalize hc5e : c3 ++ s4 = c5 at hc5
      try rw [show (c3 : ByteArray) ++ s4 = c5 from hc5e]
      conv => whnf
      exact hc5.starts (by decide)
    have q2 : ie = 0 := of_decide_eq_true q2
    rw [decide_eq_true q2]
    conv => whnf
    rw [e1, e2]
    refine CallVC.pure he rfl ?_
    intro d hyp
    obtain ⟨s1, rfl, hs1⟩ := hyp.str
    conv => whnf
    refine ⟨cat_le (litT [105, 99, 109, 112, 32] rfl) hs1 (by decide), ?_⟩
    have hc2 : stB wIcmp 31 (strB [105, 99, 109, 112, 32] ++ s1) := stB.cat ⟨[], rfl, .nil, Nat.zero_le _⟩ hs1
    generalize hc2e : (strB [105, 99, 109, 112, 32]) ++ s1 = c2 at hc2
    try rw [show (⟨#[105, 99, 109, 112, 32]⟩ : ByteArray) ++ s1 = c2 from hc2e]
    conv => whnf
    refine ⟨cat_le (hc2.isT w4.1) (litT [32] rfl) (by decide), ?_⟩
    have hc3 := hc2.cat (litT [32] rfl)
    generalize hc3e : c2 ++ (strB [32]) = c3 at hc3
    try rw [show (c2 : ByteArray) ++ ⟨#[32]⟩ = c3 from hc3e]
    conv => whnf
    refine CallVC.pure hn1 rfl ?_
    intro d hyp
    obtain ⟨s4, rfl, hs4⟩ := hyp.str
    conv => whnf
    refine ⟨cat_le (hc3.isT w4.1) hs4 (by decide), ?_⟩
    have hc5 := hc3.cat hs4
    generalize hc5e : c3 ++ s4 = c5 at hc5
    try rw [show (c3 : ByteArray) ++ s4 = c5 from hc5e]
    conv => whnf
    refine ⟨cat_le (hc5.isT w4.1) (litT [32] rfl) (by decide), ?_⟩
    have hc6 := hc5.cat (litT [32] rfl)
    generalize hc6e : c5 ++ (strB [32]) = c6 at hc6
    try rw [show (c5 : ByteArray) ++ ⟨#[32]⟩ = c6 from hc6e]
    conv => whnf
    refine CallVC.pure hn2 rfl ?_
    intro d hyp
    obtain ⟨s7, rfl, hs7⟩ := hyp.str
    conv => whnf
    refine ⟨cat_le (hc6.isT w4.1) hs7 (by decide), ?_⟩
    have hc8 := hc6.cat hs7
    generalize hc8e : c6 ++ s7 = c8 at hc8
    try rw [show (c6 : ByteArray) ++ s7 = c8 from hc8e]
    conv => whnf
    exact hc8.starts (by decide)
  have q1 : ¬ p.proto = 1 := by have := of_decide_eq_false q1; omega
  rw [decide_eq_false q1]
  conv => whnf
  refine Fork.intro (fun q3 => ?_) (fun q3 => ?_)
  · have q3 : p.proto = 17 := by have : (p.proto : Int) = 17 := of_decide_eq_true q3; omega
    rw [decide_eq_true q3]
    have hn1 := rEndT_fn p.src U.src h.src u1
    have hn2 := rEndT_fn p.dst U.dst h.dst u2
    have hn3 := rNumT_fn U.data.length (by omega)
    conv => whnf
    (refine CallVC.pure (hu) rfl ?_; rintro _ rfl; conv => whnf)
    refine Fork.intro (fun q2 => ?_) (fun q2 => ?_)
    rotate_left
    · have q2 : ¬ ue = 0 := of_decide_eq_false q2
      rw [decide_eq_false q2]
      conv => whnf
      refine Fork.intro (fun q => absurd (show (p.proto : Int) = 6 from of_decide_eq_true q) (by omega)) (fun _ => ?_)
      conv => whnf
      rw [ep]
      refine CallVC.pure he rfl ?_
      intro d hyp
      obtain ⟨s1, rfl, hs1⟩ := hyp.str
      conv => whnf
      refine ⟨cat_le (litT [105, 112, 32] rfl) hs1 (by decide), ?_⟩
      have hc2 : stB wIp 31 (strB [105, 112, 32] ++ s1) := stB.cat ⟨[], rfl, .nil, Nat.zero_le _⟩ hs1
      generalize hc2e : (strB [105, 112, 32]) ++ s1 = c2 at hc2
      try rw [show (⟨#[105, 112, 32]⟩ : ByteArray) ++ s1 = c2 from hc2e]
      conv => whnf
      refine ⟨cat_le (hc2.isT w4.2.2.2.1) (litT [32] rfl) (by decide), ?_⟩
      have hc3 := hc2.cat (litT [32] rfl)
      generalize hc3e : c2 ++ (strB [32]) = c3 at hc3
      try rw [show (c2 : ByteArray) ++ ⟨#[32]⟩ = c3 from hc3e]
      conv => whnf
      refine CallVC.pure hnp rfl ?_
      intro d hyp
      obtain ⟨s4, rfl, hs4⟩ := hyp.str
      conv => whnf
      refine ⟨cat_le (hc3.isT w4.2.2.2.1) hs4 (by decide), ?_⟩
      have hc5 := hc3.cat hs4
      generalize hc5e : c3 ++ s4 = c5 at hc5
      try rw [show (c3 : ByteArray) ++ s4 = c5 from hc5e]
      conv => whnf
      exact hc5.starts (by decide)
    have q2 : ue = 0 := of_decide_eq_true q2
    rw [decide_eq_true q2]
    conv => whnf
    refine CallVC.pure hn1 rfl ?_
    intro d hyp
    obtain ⟨s1, rfl, hs1⟩ := hyp.str
    conv => whnf
    refine ⟨cat_le (litT [117, 100, 112, 32] rfl) hs1 (by decide), ?_⟩
    have hc2 : stB wUdp 30 (strB [117, 100, 112, 32] ++ s1) := stB.cat ⟨[], rfl, .nil, Nat.zero_le _⟩ hs1
    generalize hc2e : (strB [117, 100, 112, 32]) ++ s1 = c2 at hc2
    try rw [show (⟨#[117, 100, 112, 32]⟩ : ByteArray) ++ s1 = c2 from hc2e]
    conv => whnf
    refine ⟨cat_le (hc2.isT w4.2.1) (litT [32] rfl) (by decide), ?_⟩
    have hc3 := hc2.cat (litT [32] rfl)
    generalize hc3e : c2 ++ (strB [32]) = c3 at hc3
    try rw [show (c2 : ByteArray) ++ ⟨#[32]⟩ = c3 from hc3e]
    conv => whnf
    refine CallVC.pure hn2 rfl ?_
    intro d hyp
    obtain ⟨s4, rfl, hs4⟩ := hyp.str
    conv => whnf
    refine ⟨cat_le (hc3.isT w4.2.1) hs4 (by decide), ?_⟩
    have hc5 := hc3.cat hs4
    generalize hc5e : c3 ++ s4 = c5 at hc5
    try rw [show (c3 : ByteArray) ++ s4 = c5 from hc5e]
    conv => whnf
    refine ⟨cat_le (hc5.isT w4.2.1) (litT [32] rfl) (by decide), ?_⟩
    have hc6 := hc5.cat (litT [32] rfl)
    generalize hc6e : c5 ++ (strB [32]) = c6 at hc6
    try rw [show (c5 : ByteArray) ++ ⟨#[32]⟩ = c6 from hc6e]
    conv => whnf
    refine CallVC.pure hn3 rfl ?_
    intro d hyp
    obtain ⟨s7, rfl, hs7⟩ := hyp.str
    conv => whnf
    refine ⟨cat_le (hc6.isT w4.2.1) hs7 (by decide), ?_⟩
    have hc8 := hc6.cat hs7
    generalize hc8e : c6 ++ s7 = c8 at hc8
    try rw [show (c6 : ByteArray) ++ s7 = c8 from hc8e]
    conv => whnf
    exact hc8.starts (by decide)
  have q3 : ¬ p.proto = 17 := by have : ¬ (p.proto : Int) = 17 := of_decide_eq_false q3; omega
  rw [decide_eq_false q3]
  conv => whnf
  refine Fork.intro (fun q4 => ?_) (fun q4 => ?_)
  · have q4 : p.proto = 6 := by have : (p.proto : Int) = 6 := of_decide_eq_true q4; omega
    rw [decide_eq_true q4]
    have hn1 := rEndT_fn p.src T.src h.src t1
    have hn2 := rEndT_fn p.dst T.dst h.dst t2
    have hn3 := rFlags_fn T.flags t3
    have hn4 : Fn Tryz.prog 10 [u32D T.seq] (someT 10) := (rDigits_fn T.seq t4).mono fun d hd => (⟨_, hd, dgs_byt _, dgs_len 9 _ (by omega)⟩ )
    have hn5 : Fn Tryz.prog 10 [u32D T.ack] (someT 10) := (rDigits_fn T.ack t5).mono fun d hd => (⟨_, hd, dgs_byt _, dgs_len 9 _ (by omega)⟩ )
    have hn6 := rNumT_fn T.data.length (by omega)
    conv => whnf
    (refine CallVC.pure (ht) rfl ?_; rintro _ rfl; conv => whnf)
    refine Fork.intro (fun q2 => ?_) (fun q2 => ?_)
    rotate_left
    · have q2 : ¬ te = 0 := of_decide_eq_false q2
      rw [decide_eq_false q2]
      conv => whnf
      rw [ep]
      refine CallVC.pure he rfl ?_
      intro d hyp
      obtain ⟨s1, rfl, hs1⟩ := hyp.str
      conv => whnf
      refine ⟨cat_le (litT [105, 112, 32] rfl) hs1 (by decide), ?_⟩
      have hc2 : stB wIp 31 (strB [105, 112, 32] ++ s1) := stB.cat ⟨[], rfl, .nil, Nat.zero_le _⟩ hs1
      generalize hc2e : (strB [105, 112, 32]) ++ s1 = c2 at hc2
      try rw [show (⟨#[105, 112, 32]⟩ : ByteArray) ++ s1 = c2 from hc2e]
      conv => whnf
      refine ⟨cat_le (hc2.isT w4.2.2.2.1) (litT [32] rfl) (by decide), ?_⟩
      have hc3 := hc2.cat (litT [32] rfl)
      generalize hc3e : c2 ++ (strB [32]) = c3 at hc3
      try rw [show (c2 : ByteArray) ++ ⟨#[32]⟩ = c3 from hc3e]
      conv => whnf
      refine CallVC.pure hnp rfl ?_
      intro d hyp
      obtain ⟨s4, rfl, hs4⟩ := hyp.str
      conv => whnf
      refine ⟨cat_le (hc3.isT w4.2.2.2.1) hs4 (by decide), ?_⟩
      have hc5 := hc3.cat hs4
      generalize hc5e : c3 ++ s4 = c5 at hc5
      try rw [show (c3 : ByteArray) ++ s4 = c5 from hc5e]
      conv => whnf
      exact hc5.starts (by decide)
    have q2 : te = 0 := of_decide_eq_true q2
    rw [decide_eq_true q2]
    conv => whnf
    refine CallVC.pure hn1 rfl ?_
    intro d hyp
    obtain ⟨s1, rfl, hs1⟩ := hyp.str
    conv => whnf
    refine ⟨cat_le (litT [116, 99, 112, 32] rfl) hs1 (by decide), ?_⟩
    have hc2 : stB wTcp 30 (strB [116, 99, 112, 32] ++ s1) := stB.cat ⟨[], rfl, .nil, Nat.zero_le _⟩ hs1
    generalize hc2e : (strB [116, 99, 112, 32]) ++ s1 = c2 at hc2
    try rw [show (⟨#[116, 99, 112, 32]⟩ : ByteArray) ++ s1 = c2 from hc2e]
    conv => whnf
    refine ⟨cat_le (hc2.isT w4.2.2.1) (litT [32] rfl) (by decide), ?_⟩
    have hc3 := hc2.cat (litT [32] rfl)
    generalize hc3e : c2 ++ (strB [32]) = c3 at hc3
    try rw [show (c2 : ByteArray) ++ ⟨#[32]⟩ = c3 from hc3e]
    conv => whnf
    refine CallVC.pure hn2 rfl ?_
    intro d hyp
    obtain ⟨s4, rfl, hs4⟩ := hyp.str
    conv => whnf
    refine ⟨cat_le (hc3.isT w4.2.2.1) hs4 (by decide), ?_⟩
    have hc5 := hc3.cat hs4
    generalize hc5e : c3 ++ s4 = c5 at hc5
    try rw [show (c3 : ByteArray) ++ s4 = c5 from hc5e]
    conv => whnf
    refine ⟨cat_le (hc5.isT w4.2.2.1) (litT [32] rfl) (by decide), ?_⟩
    have hc6 := hc5.cat (litT [32] rfl)
    generalize hc6e : c5 ++ (strB [32]) = c6 at hc6
    try rw [show (c5 : ByteArray) ++ ⟨#[32]⟩ = c6 from hc6e]
    conv => whnf
    refine CallVC.pure hn3 rfl ?_
    intro d hyp
    obtain ⟨s7, rfl, hs7⟩ := hyp.str
    conv => whnf
    refine ⟨cat_le (hc6.isT w4.2.2.1) hs7 (by decide), ?_⟩
    have hc8 := hc6.cat hs7
    generalize hc8e : c6 ++ s7 = c8 at hc8
    try rw [show (c6 : ByteArray) ++ s7 = c8 from hc8e]
    conv => whnf
    refine ⟨cat_le (hc8.isT w4.2.2.1) (litT [32] rfl) (by decide), ?_⟩
    have hc9 := hc8.cat (litT [32] rfl)
    generalize hc9e : c8 ++ (strB [32]) = c9 at hc9
    try rw [show (c8 : ByteArray) ++ ⟨#[32]⟩ = c9 from hc9e]
    conv => whnf
    refine CallVC.pure hn4 rfl ?_
    intro d hyp
    obtain ⟨s10, rfl, hs10⟩ := hyp.str
    conv => whnf
    refine ⟨cat_le (hc9.isT w4.2.2.1) hs10 (by decide), ?_⟩
    have hc11 := hc9.cat hs10
    generalize hc11e : c9 ++ s10 = c11 at hc11
    try rw [show (c9 : ByteArray) ++ s10 = c11 from hc11e]
    conv => whnf
    refine ⟨cat_le (hc11.isT w4.2.2.1) (litT [32] rfl) (by decide), ?_⟩
    have hc12 := hc11.cat (litT [32] rfl)
    generalize hc12e : c11 ++ (strB [32]) = c12 at hc12
    try rw [show (c11 : ByteArray) ++ ⟨#[32]⟩ = c12 from hc12e]
    conv => whnf
    refine CallVC.pure hn5 rfl ?_
    intro d hyp
    obtain ⟨s13, rfl, hs13⟩ := hyp.str
    conv => whnf
    refine ⟨cat_le (hc12.isT w4.2.2.1) hs13 (by decide), ?_⟩
    have hc14 := hc12.cat hs13
    generalize hc14e : c12 ++ s13 = c14 at hc14
    try rw [show (c12 : ByteArray) ++ s13 = c14 from hc14e]
    conv => whnf
    refine ⟨cat_le (hc14.isT w4.2.2.1) (litT [32] rfl) (by decide), ?_⟩
    have hc15 := hc14.cat (litT [32] rfl)
    generalize hc15e : c14 ++ (strB [32]) = c15 at hc15
    try rw [show (c14 : ByteArray) ++ ⟨#[32]⟩ = c15 from hc15e]
    conv => whnf
    refine CallVC.pure hn6 rfl ?_
    intro d hyp
    obtain ⟨s16, rfl, hs16⟩ := hyp.str
    conv => whnf
    refine ⟨cat_le (hc15.isT w4.2.2.1) hs16 (by decide), ?_⟩
    have hc17 := hc15.cat hs16
    generalize hc17e : c15 ++ s16 = c17 at hc17
    try rw [show (c15 : ByteArray) ++ s16 = c17 from hc17e]
    conv => whnf
    exact hc17.starts (by decide)
  have q4 : ¬ p.proto = 6 := by have : ¬ (p.proto : Int) = 6 := of_decide_eq_false q4; omega
  rw [decide_eq_false q4]
  conv => whnf
  rw [ep]
  refine CallVC.pure he rfl ?_
  intro d hyp
  obtain ⟨s1, rfl, hs1⟩ := hyp.str
  conv => whnf
  refine ⟨cat_le (litT [105, 112, 32] rfl) hs1 (by decide), ?_⟩
  have hc2 : stB wIp 31 (strB [105, 112, 32] ++ s1) := stB.cat ⟨[], rfl, .nil, Nat.zero_le _⟩ hs1
  generalize hc2e : (strB [105, 112, 32]) ++ s1 = c2 at hc2
  try rw [show (⟨#[105, 112, 32]⟩ : ByteArray) ++ s1 = c2 from hc2e]
  conv => whnf
  refine ⟨cat_le (hc2.isT w4.2.2.2.1) (litT [32] rfl) (by decide), ?_⟩
  have hc3 := hc2.cat (litT [32] rfl)
  generalize hc3e : c2 ++ (strB [32]) = c3 at hc3
  try rw [show (c2 : ByteArray) ++ ⟨#[32]⟩ = c3 from hc3e]
  conv => whnf
  refine CallVC.pure hnp rfl ?_
  intro d hyp
  obtain ⟨s4, rfl, hs4⟩ := hyp.str
  conv => whnf
  refine ⟨cat_le (hc3.isT w4.2.2.2.1) hs4 (by decide), ?_⟩
  have hc5 := hc3.cat hs4
  generalize hc5e : c3 ++ s4 = c5 at hc5
  try rw [show (c3 : ByteArray) ++ s4 = c5 from hc5e]
  conv => whnf
  exact hc5.starts (by decide)
end Go.Proofs.YtgodclgcfpmloaaGreatDoor.V
namespace Go.Proofs.YtgodclgcfpmloaaGreatDoor.V
open Go.RowKit
attribute [local irreducible] Fn FnN FnR OpVC DLe

theorem rInner_fn (p : Pkt) (h : p.ok) (hl : p.data.length ≤ 100000) : Fn Tryz.prog 37 [.agg (pktD p)] fun d => d = .tup [.agg (pktD (borneP p).1), boolD (borneP p).2] := by
  refine FnX (fnOf [] Tryz.func37 rfl (by kernel_rfl) (Nat.le_of_ble_eq_true rfl) ?_)
  have ho := rOpen_fn p h hl
  obtain ⟨hb1, hb2⟩ := openP_byt h
  have hp := rParseP_fn (openP p).1 hb1 (by omega)
  unfold borneP
  generalize openP p = R at *
  obtain ⟨b, e⟩ := R
  dsimp only at hp ho ⊢
  generalize parseP b = Q at *
  conv => whnf
  (refine CallVC.pure (ho) rfl ?_; rintro _ rfl; conv => whnf)
  refine Fork.intro (fun q => ?_) (fun q => ?_)
  · rw [decide_eq_false (show ¬ e = 0 from ndT q)]
    conv => whnf
    exact dleTup ⟨dleAgg ⟨DLe.refl _, DLe.refl _, DLe.refl _, DLe.refl _, DLe.refl _, DLe.refl _, DLe.refl _, DLe.refl _, DLe.refl _, DLe.nil _ _, DLe.nil _ _, trivial⟩, DLe.refl _, trivial⟩
  · rw [decide_eq_true (show e = 0 from ndF q)]
    conv => whnf
    (refine CallVC.pure (hp) rfl ?_; rintro _ rfl; conv => whnf)
    exact DLe.refl _
set_option maxHeartbeats 2000000 in
theorem rPacket_fn (p : Pkt) (h : p.ok) (hl : p.data.length ≤ 100000) : Fn Tryz.prog 23 [.agg (pktD p)] (starts (kindPk p) 6611) := by
  refine fnOf [(6, [0, 4, 1, 2, 3, 5, 6, 7, 8]), (7, [0, 4, 1, 2, 3, 5, 6, 7, 8])] Tryz.func23 rfl (by kernel_rfl) (Nat.le_of_ble_eq_true rfl) ?_
  have hb := rInner_fn p h hl
  have hp := rPlain_fn p h hl
  obtain ⟨hok, hlen⟩ := borneP_ok p h
  have hq := rPlain_fn (borneP p).1 hok (by omega)
  have hb2 := rInner_fn (borneP p).1 hok (by omega)
  have hk := kindB_ok (bodyOf (borneP p).1).1
  have he1 := rEnds_fn p h
  have he2 := rEnds_fn (borneP p).1 hok
  obtain ⟨_, _, _, _, w5, _⟩ := word_ok
  unfold kindPk
  unfold kindPl at hq
  generalize kindB (bodyOf (borneP p).1).1 = kq at *
  generalize borneP (borneP p).1 = R2 at *
  generalize borneP p = R at *
  obtain ⟨q, is⟩ := R
  obtain ⟨q2, more⟩ := R2
  dsimp only at hb hb2 hq he2 ⊢
  conv => whnf
  (refine CallVC.pure (hb) rfl ?_; rintro _ rfl; conv => whnf)
  cases is with
  | false =>
    conv => whnf
    refine CallVC.pure hp rfl ?_
    rintro _ ⟨r, rfl, r1, r2⟩
    conv => whnf
    exact ⟨r, rfl, r1, by omega⟩
  | true =>
    conv => whnf
    (refine CallVC.pure (hb2) rfl ?_; rintro _ rfl; conv => whnf)
    cases more with
    | true =>
      conv => whnf
      refine CallVC.pure he1 rfl ?_
      intro d hyp
      obtain ⟨s1, rfl, hs1⟩ := hyp.str
      conv => whnf
      refine ⟨cat_le (litT [105, 112, 105, 112, 32] rfl) hs1 (by decide), ?_⟩
      have hc2 : stB wIpip 31 (strB [105, 112, 105, 112, 32] ++ s1) := stB.cat ⟨[], rfl, .nil, Nat.zero_le _⟩ hs1
      generalize hc2e : (strB [105, 112, 105, 112, 32]) ++ s1 = c2 at hc2
      try rw [show (⟨#[105, 112, 105, 112, 32]⟩ : ByteArray) ++ s1 = c2 from hc2e]
      conv => whnf
      refine ⟨cat_le (hc2.isT w5) (litT [32, 91, 105, 112, 105, 112, 32] rfl) (by decide), ?_⟩
      have hc3 := hc2.cat (litT [32, 91, 105, 112, 105, 112, 32] rfl)
      generalize hc3e : c2 ++ (strB [32, 91, 105, 112, 105, 112, 32]) = c3 at hc3
      try rw [show (c2 : ByteArray) ++ ⟨#[32, 91, 105, 112, 105, 112, 32]⟩ = c3 from hc3e]
      conv => whnf
      refine CallVC.pure he2 rfl ?_
      intro d hyp
      obtain ⟨s4, rfl, hs4⟩ := hyp.str
      conv => whnf
      refine ⟨cat_le (hc3.isT w5) hs4 (by decide), ?_⟩
      have hc5 := hc3.cat hs4
      generalize hc5e : c3 ++ s4 = c5 at hc5
      try rw [show (c3 : ByteArray) ++ s4 = c5 from hc5e]
      conv => whnf
      refine ⟨cat_le (hc5.isT w5) (litT [93] rfl) (by decide), ?_⟩
      have hc6 := hc5.cat (litT [93] rfl)
      generalize hc6e : c5 ++ (strB [93]) = c6 at hc6
      try rw [show (c5 : ByteArray) ++ ⟨#[93]⟩ = c6 from hc6e]
      conv => whnf
      exact hc6.starts (by decide)
    | false =>
      conv => whnf
      refine CallVC.pure he1 rfl ?_
      intro d hyp
      obtain ⟨s1, rfl, hs1⟩ := hyp.str
      conv => whnf
      refine ⟨cat_le (litT [105, 112, 105, 112, 32] rfl) hs1 (by decide), ?_⟩
      have hc2 : stB wIpip 31 (strB [105, 112, 105, 112, 32] ++ s1) := stB.cat ⟨[], rfl, .nil, Nat.zero_le _⟩ hs1
      generalize hc2e : (strB [105, 112, 105, 112, 32]) ++ s1 = c2 at hc2
      try rw [show (⟨#[105, 112, 105, 112, 32]⟩ : ByteArray) ++ s1 = c2 from hc2e]
      conv => whnf
      refine ⟨cat_le (hc2.isT w5) (litT [32, 91] rfl) (by decide), ?_⟩
      have hc3 := hc2.cat (litT [32, 91] rfl)
      generalize hc3e : c2 ++ (strB [32, 91]) = c3 at hc3
      try rw [show (c2 : ByteArray) ++ ⟨#[32, 91]⟩ = c3 from hc3e]
      conv => whnf
      refine CallVC.pure hq rfl ?_
      intro d hyp
      obtain ⟨s4, rfl, hs4⟩ := hyp.str
      conv => whnf
      have hs4 := hs4.isT hk
      refine ⟨cat_le (hc3.isT w5) hs4 (by decide), ?_⟩
      have hc5 := hc3.cat hs4
      generalize hc5e : c3 ++ s4 = c5 at hc5
      try rw [show (c3 : ByteArray) ++ s4 = c5 from hc5e]
      conv => whnf
      refine ⟨cat_le (hc5.isT w5) (litT [93] rfl) (by decide), ?_⟩
      have hc6 := hc5.cat (litT [93] rfl)
      generalize hc6e : c5 ++ (strB [93]) = c6 at hc6
      try rw [show (c5 : ByteArray) ++ ⟨#[93]⟩ = c6 from hc6e]
      conv => whnf
      exact hc6.starts (by decide)
def lnB (n : Nat) (w : List Nat) (k : Nat) (s : ByteArray) : Prop := ∃ r, s = strB (n :: 32 :: (w ++ 32 :: r)) ∧ Byt r ∧ r.length ≤ k
theorem lnB.cat {n : Nat} {w : List Nat} {j k : Nat} {s t : ByteArray} (h : lnB n w j s) (h' : isT k t) : lnB n w (j + k) (s ++ t) := by
  obtain ⟨l, rfl, h1, h2⟩ := h
  obtain ⟨m, rfl, h3, h4⟩ := h'
  refine ⟨l ++ m, ?_, h1.append h3, by rw [List.length_append]; omega⟩
  rw [strB_append]
  congr 1
  simp only [List.cons_append, List.append_assoc]
theorem lnB.isT {n : Nat} {w : List Nat} {j : Nat} {s : ByteArray} (hn : n < 256) (hw : Byt w ∧ w.length ≤ 10) (h : lnB n w j s) : isT (j + 13) s := by
  obtain ⟨l, rfl, h1, h2⟩ := h
  exact ⟨_, rfl, .cons hn (.cons (by decide) (hw.1.append (.cons (by decide) h1))), by have := hw.2; simp only [List.length_cons, List.length_append]; omega⟩
theorem lnB.start {n : Nat} {w : List Nat} {k : Nat} {s : ByteArray} (h : stB w k s) : lnB n w k (strB [n, 32] ++ s) := by
  obtain ⟨r, rfl, h1, h2⟩ := h
  exact ⟨r, by rw [strB_append]; rfl, h1, h2⟩
theorem lnB.line {b : List Nat} {n k : Nat} {s : ByteArray} (hn : n < 256) (hn2 : n ≠ 32) (h : lnB n (kindFr b) k s) (hk : k ≤ 6611) : lineK b (.v (.string s)) := by
  obtain ⟨r, rfl, h1, h2⟩ := h
  exact ⟨n, r, rfl, hn, hn2, h1, by omega⟩

set_option maxHeartbeats 8000000 in
theorem rLine_fn (x : Snt) (hb : Byt x.frame) (hl : x.frame.length ≤ 100000) : Fn Tryz.prog 9 [.agg (sntD x)] (lineK x.frame) := by
  refine fnOf [(8, [0, 1, 2, 3, 7, 8, 4, 5, 6, 9, 10, 11]), (10, [0, 1, 2, 3, 7, 8, 4, 5, 6, 9, 10, 11])] Tryz.func9 rfl (by kernel_rfl) (Nat.le_of_ble_eq_true rfl) ?_
  obtain ⟨nic, b⟩ := x
  dsimp only at hb hl
  have he := rParseE_fn b hb hl
  obtain ⟨e1, e2, e3, e4, e5⟩ := parseE_ok hb
  have ha := rParseA_fn (parseE b).1.data e1 (by omega)
  have hp := rParseP_fn (parseE b).1.data e1 (by omega)
  obtain ⟨m1, m2, m3⟩ := arpOk_mac e1
  obtain ⟨p1, _, p3⟩ := parseP_ok e1
  have htl : (parseA (parseE b).1.data).1.dstMac.length = 6 := by
    unfold parseA
    split
    · rfl
    · rename_i h
      have h := of_decide_eq_false h
      split
      · show (((parseE b).1.data.drop 18).take 6).length = 6
        rw [List.length_take, List.length_drop]; omega
      · rfl
  have hsip := rAddrT_fn _ m2
  have hdip := rAddrT_fn _ m3
  have hmac := rMacT_fn _ m1
  have hk := rPacket_fn _ p1 (by omega)
  have hkq : Byt (kindPk (parseP (parseE b).1.data).1) ∧ (kindPk (parseP (parseE b).1.data).1).length ≤ 10 := by
    obtain ⟨_, _, _, _, w5, _⟩ := word_ok
    unfold kindPk kindPl
    split
    · exact w5
    · exact kindB_ok _
  have hraw := rNumT_fn b.length (by omega)
  obtain ⟨_, _, _, _, _, w6, w7⟩ := word_ok
  unfold lineK
  dsimp only
  obtain ⟨kw, hkw⟩ : ∃ kw, kw = kindFr b := ⟨_, rfl⟩
  rw [← hkw]
  unfold kindFr at hkw
  generalize parseA (parseE b).1.data = A at *
  generalize parseP (parseE b).1.data = Q at *
  generalize parseE b = E at *
  obtain ⟨⟨dst, src, t, data⟩, e⟩ := E
  obtain ⟨A, ae⟩ := A
  obtain ⟨Q, qe⟩ := Q
  dsimp only at *
  generalize kindPk Q = kq at *
  match dst, e4, src, e5 with
  | [d0, d1, d2, d3, d4, d5], _, [s0, s1, s2, s3, s4, s5], _ =>
  obtain ⟨op, sm, sip, dm, dip⟩ := A
  dsimp only at m1 htl hsip hdip hmac
  obtain ⟨a0, a1, a2, a3, a4, a5, rfl, _⟩ := m1.six
  match dm, htl with
  | [b0, b1, b2, b3, b4, b5], _ =>
  have start : ∀ n : Nat, n < 256 → n ≠ 32 → isT 2 (strB [n, 32]) := fun n h _ => ⟨_, rfl, .cons h (.cons (by decide) .nil), Nat.le_refl _⟩
  conv => whnf
  refine Fork.intro (fun q1 => ?_) (fun q1 => ?_)
  rotate_left
  obtain ⟨n, hn0⟩ : ∃ n : Nat, n = 63 := ⟨_, rfl⟩
  have hn : n < 256 := by omega
  have hn2 : n ≠ 32 := by omega
  rw [show (⟨#[63, 32]⟩ : ByteArray) = strB [n, 32] by rw [hn0]; rfl]
  conv => whnf
  (refine CallVC.pure (he) rfl ?_; rintro _ rfl; conv => whnf)
  rotate_left
  have q1 : 0 ≤ nic := of_decide_eq_true q1
  conv => whnf
  refine Fork.intro (fun q2 => ?_) (fun q2 => ?_)
  rotate_left
  obtain ⟨n, hn0⟩ : ∃ n : Nat, n = 63 := ⟨_, rfl⟩
  have hn : n < 256 := by omega
  have hn2 : n ≠ 32 := by omega
  rw [show (⟨#[63, 32]⟩ : ByteArray) = strB [n, 32] by rw [hn0]; rfl]
  conv => whnf
  (refine CallVC.pure (he) rfl ?_; rintro _ rfl; conv => whnf)
  rotate_left
  rotate_left
  have q2 : nic < 10 := of_decide_eq_true q2
  obtain ⟨k, rfl⟩ : ∃ k : Nat, nic = (k : Int) := ⟨nic.toNat, by omega⟩
  have hd := rNum_fn k (by omega)
  rw [dgs_lt (by omega)] at hd
  obtain ⟨n, hn0⟩ : ∃ n : Nat, n = 48 + k := ⟨_, rfl⟩
  have hn : n < 256 := by omega
  have hn2 : n ≠ 32 := by omega
  conv => whnf
  (refine CallVC.pure (hd) rfl ?_; rintro _ rfl; conv => whnf)
  refine ⟨str_le (a := [48 + k]) (b := [32]) (Nat.le_of_ble_eq_true rfl), ?_⟩
  rw [show strB [48 + k] ++ (⟨#[32]⟩ : ByteArray) = strB [n, 32] by rw [hn0, show (⟨#[32]⟩ : ByteArray) = strB [32] from rfl, strB_append]; rfl]
  conv => whnf
  (refine CallVC.pure (he) rfl ?_; rintro _ rfl; conv => whnf)
  all_goals
    have hpre := start n hn hn2
    (refine CallVC.pure (ha) rfl ?_; rintro _ rfl; conv => whnf)
    (refine CallVC.pure (hp) rfl ?_; rintro _ rfl; conv => whnf)
    refine Fork.intro (fun z1 => ?_) (fun z1 => ?_)
    rotate_left
    · have z1 : ¬ e = 0 := of_decide_eq_false z1
      obtain rfl : kw = wRaw := by rw [hkw, decide_eq_false z1]; rfl
      conv => whnf
      refine Fork.intro (fun q => absurd (of_decide_eq_true q) z1) (fun _ => ?_)
      conv => whnf
      refine Fork.intro (fun q => absurd (of_decide_eq_true q) z1) (fun _ => ?_)
      conv => whnf
      refine ⟨cat_le hpre (litT [114, 97, 119, 32] rfl) (by decide), ?_⟩
      have hc1 : lnB n wRaw 4 (strB [n, 32] ++ strB [114, 97, 119, 32]) := lnB.start ⟨[], rfl, byt_of rfl, by decide⟩
      generalize hc1e : strB [n, 32] ++ strB [114, 97, 119, 32] = c1 at hc1
      try rw [show strB [n, 32] ++ (⟨#[114, 97, 119, 32]⟩ : ByteArray) = c1 from hc1e]
      conv => whnf
      refine CallVC.pure hraw rfl ?_
      intro d hyp
      obtain ⟨s2, rfl, hs2⟩ := hyp.str
      conv => whnf
      refine ⟨cat_le (hc1.isT hn w7) hs2 (by decide), ?_⟩
      have hc3 := hc1.cat hs2
      generalize hc3e : c1 ++ s2 = c3 at hc3
      try rw [show (c1 : ByteArray) ++ s2 = c3 from hc3e]
      conv => whnf
      obtain ⟨r, rfl, r1, r2⟩ := hc3
      exact ⟨n, r, rfl, hn, hn2, r1, Nat.le_trans r2 (by decide)⟩
    obtain rfl : e = 0 := of_decide_eq_true z1
    conv => whnf
    refine Fork.intro (fun z2 => ?_) (fun z2 => ?_)
    · obtain rfl : t = 2054 := by have : (t : Int) = 2054 := of_decide_eq_true z2; omega
      conv => whnf
      refine Fork.intro (fun z3 => ?_) (fun z3 => ?_)
      · obtain rfl : ae = 0 := of_decide_eq_true z3
        obtain rfl : kw = wArp := by rw [hkw]; rfl
        conv => whnf
        refine Fork.intro (fun z4 => ?_) (fun z4 => ?_)
        · conv => whnf
          refine ⟨cat_le hpre (litT [97, 114, 112, 32, 119, 104, 111, 32] rfl) (by decide), ?_⟩
          have hc1 : lnB n wArp 8 (strB [n, 32] ++ strB [97, 114, 112, 32, 119, 104, 111, 32]) := lnB.start ⟨[119, 104, 111, 32], rfl, byt_of rfl, by decide⟩
          generalize hc1e : strB [n, 32] ++ strB [97, 114, 112, 32, 119, 104, 111, 32] = c1 at hc1
          try rw [show strB [n, 32] ++ (⟨#[97, 114, 112, 32, 119, 104, 111, 32]⟩ : ByteArray) = c1 from hc1e]
          conv => whnf
          refine CallVC.pure hdip rfl ?_
          intro d hyp
          obtain ⟨s2, rfl, hs2⟩ := hyp.str
          conv => whnf
          refine ⟨cat_le (hc1.isT hn w6) hs2 (by decide), ?_⟩
          have hc3 := hc1.cat hs2
          generalize hc3e : c1 ++ s2 = c3 at hc3
          try rw [show (c1 : ByteArray) ++ s2 = c3 from hc3e]
          conv => whnf
          refine ⟨cat_le (hc3.isT hn w6) (litT [32, 116, 101, 108, 108, 32] rfl) (by decide), ?_⟩
          have hc4 := hc3.cat (litT [32, 116, 101, 108, 108, 32] rfl)
          generalize hc4e : c3 ++ (strB [32, 116, 101, 108, 108, 32]) = c4 at hc4
          try rw [show (c3 : ByteArray) ++ ⟨#[32, 116, 101, 108, 108, 32]⟩ = c4 from hc4e]
          conv => whnf
          refine CallVC.pure hsip rfl ?_
          intro d hyp
          obtain ⟨s5, rfl, hs5⟩ := hyp.str
          conv => whnf
          refine ⟨cat_le (hc4.isT hn w6) hs5 (by decide), ?_⟩
          have hc6 := hc4.cat hs5
          generalize hc6e : c4 ++ s5 = c6 at hc6
          try rw [show (c4 : ByteArray) ++ s5 = c6 from hc6e]
          conv => whnf
          obtain ⟨r, rfl, r1, r2⟩ := hc6
          exact ⟨n, r, rfl, hn, hn2, r1, Nat.le_trans r2 (by decide)⟩
        · conv => whnf
          refine ⟨cat_le hpre (litT [97, 114, 112, 32, 105, 115, 32] rfl) (by decide), ?_⟩
          have hc1 : lnB n wArp 7 (strB [n, 32] ++ strB [97, 114, 112, 32, 105, 115, 32]) := lnB.start ⟨[105, 115, 32], rfl, byt_of rfl, by decide⟩
          generalize hc1e : strB [n, 32] ++ strB [97, 114, 112, 32, 105, 115, 32] = c1 at hc1
          try rw [show strB [n, 32] ++ (⟨#[97, 114, 112, 32, 105, 115, 32]⟩ : ByteArray) = c1 from hc1e]
          conv => whnf
          refine CallVC.pure hsip rfl ?_
          intro d hyp
          obtain ⟨s2, rfl, hs2⟩ := hyp.str
          conv => whnf
          refine ⟨cat_le (hc1.isT hn w6) hs2 (by decide), ?_⟩
          have hc3 := hc1.cat hs2
          generalize hc3e : c1 ++ s2 = c3 at hc3
          try rw [show (c1 : ByteArray) ++ s2 = c3 from hc3e]
          conv => whnf
          refine ⟨cat_le (hc3.isT hn w6) (litT [32] rfl) (by decide), ?_⟩
          have hc4 := hc3.cat (litT [32] rfl)
          generalize hc4e : c3 ++ (strB [32]) = c4 at hc4
          try rw [show (c3 : ByteArray) ++ ⟨#[32]⟩ = c4 from hc4e]
          conv => whnf
          refine CallVC.pure hmac rfl ?_
          intro d hyp
          obtain ⟨s5, rfl, hs5⟩ := hyp.str
          conv => whnf
          refine ⟨cat_le (hc4.isT hn w6) hs5 (by decide), ?_⟩
          have hc6 := hc4.cat hs5
          generalize hc6e : c4 ++ s5 = c6 at hc6
          try rw [show (c4 : ByteArray) ++ s5 = c6 from hc6e]
          conv => whnf
          obtain ⟨r, rfl, r1, r2⟩ := hc6
          exact ⟨n, r, rfl, hn, hn2, r1, Nat.le_trans r2 (by decide)⟩
      · have z3 : ¬ ae = 0 := of_decide_eq_false z3
        obtain rfl : kw = wRaw := by rw [hkw, decide_eq_false z3]; rfl
        conv => whnf
        refine Fork.intro (fun q => absurd (of_decide_eq_true q) z3) (fun _ => ?_)
        conv => whnf
        refine ⟨cat_le hpre (litT [114, 97, 119, 32] rfl) (by decide), ?_⟩
        have hc1 : lnB n wRaw 4 (strB [n, 32] ++ strB [114, 97, 119, 32]) := lnB.start ⟨[], rfl, byt_of rfl, by decide⟩
        generalize hc1e : strB [n, 32] ++ strB [114, 97, 119, 32] = c1 at hc1
        try rw [show strB [n, 32] ++ (⟨#[114, 97, 119, 32]⟩ : ByteArray) = c1 from hc1e]
        conv => whnf
        refine CallVC.pure hraw rfl ?_
        intro d hyp
        obtain ⟨s2, rfl, hs2⟩ := hyp.str
        conv => whnf
        refine ⟨cat_le (hc1.isT hn w7) hs2 (by decide), ?_⟩
        have hc3 := hc1.cat hs2
        generalize hc3e : c1 ++ s2 = c3 at hc3
        try rw [show (c1 : ByteArray) ++ s2 = c3 from hc3e]
        conv => whnf
        obtain ⟨r, rfl, r1, r2⟩ := hc3
        exact ⟨n, r, rfl, hn, hn2, r1, Nat.le_trans r2 (by decide)⟩
    have z2 : ¬ t = 2054 := by have : ¬ (t : Int) = 2054 := of_decide_eq_false z2; omega
    conv => whnf
    refine Fork.intro (fun q => absurd (show (t : Int) = 2054 from of_decide_eq_true q) (by omega)) (fun _ => ?_)
    conv => whnf
    refine Fork.intro (fun z3 => ?_) (fun z3 => ?_)
    · obtain rfl : t = 2048 := by have : (t : Int) = 2048 := of_decide_eq_true z3; omega
      conv => whnf
      refine Fork.intro (fun z4 => ?_) (fun z4 => ?_)
      · obtain rfl : qe = 0 := of_decide_eq_true z4
        obtain rfl : kw = kq := by rw [hkw]; rfl
        conv => whnf
        refine CallVC.pure hk rfl ?_
        intro d hyp
        obtain ⟨s1, rfl, hs1⟩ := hyp.str
        have hs1t : isT (6611 + 11) s1 := hs1.isT hkq
        conv => whnf
        refine ⟨cat_le hpre hs1t (by decide), ?_⟩
        obtain ⟨r, rfl, r1, r2⟩ := hs1
        rw [strB_append]
        conv => whnf
        exact ⟨n, r, rfl, hn, hn2, r1, r2⟩
      · have z4 : ¬ qe = 0 := of_decide_eq_false z4
        obtain rfl : kw = wRaw := by rw [hkw, decide_eq_false z4]; rfl
        conv => whnf
        refine ⟨cat_le hpre (litT [114, 97, 119, 32] rfl) (by decide), ?_⟩
        have hc1 : lnB n wRaw 4 (strB [n, 32] ++ strB [114, 97, 119, 32]) := lnB.start ⟨[], rfl, byt_of rfl, by decide⟩
        generalize hc1e : strB [n, 32] ++ strB [114, 97, 119, 32] = c1 at hc1
        try rw [show strB [n, 32] ++ (⟨#[114, 97, 119, 32]⟩ : ByteArray) = c1 from hc1e]
        conv => whnf
        refine CallVC.pure hraw rfl ?_
        intro d hyp
        obtain ⟨s2, rfl, hs2⟩ := hyp.str
        conv => whnf
        refine ⟨cat_le (hc1.isT hn w7) hs2 (by decide), ?_⟩
        have hc3 := hc1.cat hs2
        generalize hc3e : c1 ++ s2 = c3 at hc3
        try rw [show (c1 : ByteArray) ++ s2 = c3 from hc3e]
        conv => whnf
        obtain ⟨r, rfl, r1, r2⟩ := hc3
        exact ⟨n, r, rfl, hn, hn2, r1, Nat.le_trans r2 (by decide)⟩
    have z3 : ¬ t = 2048 := by have : ¬ (t : Int) = 2048 := of_decide_eq_false z3; omega
    obtain rfl : kw = wRaw := by rw [hkw, decide_eq_false z2, decide_eq_false z3]; rfl
    conv => whnf
    refine ⟨cat_le hpre (litT [114, 97, 119, 32] rfl) (by decide), ?_⟩
    have hc1 : lnB n wRaw 4 (strB [n, 32] ++ strB [114, 97, 119, 32]) := lnB.start ⟨[], rfl, byt_of rfl, by decide⟩
    generalize hc1e : strB [n, 32] ++ strB [114, 97, 119, 32] = c1 at hc1
    try rw [show strB [n, 32] ++ (⟨#[114, 97, 119, 32]⟩ : ByteArray) = c1 from hc1e]
    conv => whnf
    refine CallVC.pure hraw rfl ?_
    intro d hyp
    obtain ⟨s2, rfl, hs2⟩ := hyp.str
    conv => whnf
    refine ⟨cat_le (hc1.isT hn w7) hs2 (by decide), ?_⟩
    have hc3 := hc1.cat hs2
    generalize hc3e : c1 ++ s2 = c3 at hc3
    try rw [show (c1 : ByteArray) ++ s2 = c3 from hc3e]
    conv => whnf
    obtain ⟨r, rfl, r1, r2⟩ := hc3
    exact ⟨n, r, rfl, hn, hn2, r1, Nat.le_trans r2 (by decide)⟩
end Go.Proofs.YtgodclgcfpmloaaGreatDoor.V
