/-
  Steps' words, digits, numbers, which steps may be written: the program's, by value. Conditions: numbers of their types.
  Bytes as figures, halves of keys: the program's, by value. Conditions: bytes; texts not too long.
  script.Line by value. Conditions: numbers of their types. (printed by gen_ie.py)
  script.Read by value. Conditions: a text of bytes, not too long. (printed by gen_if.py)
  Bytes as figures, numbers as bytes, digits: the document's, by value. Conditions: bytes; texts not too long.
  Texts of figures read, rows compared, numbers as bytes: the document's, by value. Conditions: bytes; not too long. (printed by gen_ih.py)
  Which steps may be, their lines, steps compared: the document's, by value. Conditions: numbers of their types. (printed by gen_ii.py)
  The document's reading of a line, by value. Conditions: a text of bytes, not too long. (printed by gen_ij.py)
  The law ScriptLines by value, where lives is true. Conditions: numbers of their types, a text of bytes. (printed by gen_ik.py)
-/
import Derived.Test.YtbjhkhhbdlnfbaaGreatDoorK2
import Derived.Test.YtbjhkhhbdlnfbaaGreatDoorK4
import Derived.Test.YtbjhkhhbdlnfbaaGreatDoorK1
import Derived.Test.YtbjhkhhbdlnfbaaGreatDoorK3
namespace Go.Proofs.YtbjhkhhbdlnfbaaGreatDoor.V
open Go.RowKit
section
variable {P : Program}
theorem Fn.exact {f : FuncId} {args : List D} {D0 : D} (h : Fn P f args fun d => DLe d D0) : Fn P f args fun d => d = D0 := by
  unfold Fn at *
  exact ⟨h.1, fun w B vs hB hr => (h.2 w B vs hB hr).mono fun e w' ⟨d, v, h1, h2, h3, h4⟩ => ⟨D0, v, rfl, h2, h3, h1 _ _ h4⟩⟩
theorem Fn.le {f : FuncId} {args args' : List D} {Q : D → Prop} (h : Fn P f args Q) (hle : ∀ C vs, reps C args' vs → reps C args vs) : Fn P f args' Q := by
  unfold Fn at *
  exact ⟨h.1, fun w B vs hB hr => h.2 w B vs hB (hle _ _ hr)⟩
end
attribute [local irreducible] Fn FnN OpVC

abbrev u64N (n : Nat) : D := .v (.int .u64 n)
def byN (x : Nat) : List D := [u8D x]
abbrev rowsN (L : List Nat) : D := .rows Nat 1 byN L
def stD (a : Stp) : List D := [intD a.kind, intD a.nic, intD a.num, rowsN a.frame, u64N a.lo, u64N a.hi]
abbrev rowsS (L : List Stp) : D := .rows Stp 6 stD L
theorem eqKeyOk : eqOk Tryz.prog 25 [1, 1] = true := by kernel_rfl

theorem stW_no {n : Int} (h : n < 1 ∨ 5 < n) : stW n = [] := by
  unfold stW
  split <;> first | rfl | (exfalso; revert h; decide)
theorem stWord_fn (n : Int) : Fn Tryz.prog 22 [intD n] fun d => d = strD (stW n) := by
  refine fnOf [] Tryz.func22 rfl (by kernel_rfl) (Nat.le_of_ble_eq_true rfl) ?_
  by_cases h : n < 0
  · rw [stW_no (by omega)]
    conv => whnf
    refine Fork.intro (fun _ => ?_) (fun g => absurd h (of_decide_eq_false g))
    conv => whnf
    rfl
  by_cases h8 : 6 ≤ n
  · rw [stW_no (by omega)]
    conv => whnf
    refine Fork.intro (fun g => absurd (of_decide_eq_true g) h) (fun _ => ?_)
    conv => whnf
    refine Fork.intro (fun _ => ?_) (fun g => absurd h8 (of_decide_eq_false g))
    conv => whnf
    rfl
  rcases (by omega : n = 0 ∨ n = 1 ∨ n = 2 ∨ n = 3 ∨ n = 4 ∨ n = 5) with rfl | rfl | rfl | rfl | rfl | rfl
  all_goals
    conv => whnf
    (refine ⟨by decide, ?_⟩; conv => whnf)
    rfl

def DgAt (n : Nat) (g : Nat × List Nat × Bool) : Prop := (g.2.2 = true → dgs n = dgs g.1 ++ g.2.1) ∧ (g.2.2 = false → g.2.1 = dgs n) ∧ g.1 ≤ n
theorem DgAt.step {n m : Nat} {out : List Nat} (hg : DgAt n (m, out, true)) : m ≤ n ∧ out.length ≤ (dgs n).length ∧ DgAt n (m / 10, (48 + m % 10) :: out, decide (0 < m / 10)) := by
  obtain ⟨h1, _, h3⟩ := hg
  have h1 := h1 rfl
  dsimp only at h1 h3
  refine ⟨h3, by rw [h1]; simp, fun g => ?_, fun g => ?_, by show m / 10 ≤ n; omega⟩
  · have g := of_decide_eq_true g
    dsimp only
    rw [h1, dgs_ge (n := m) (by omega)]
    simp
  · have g := of_decide_eq_false g
    dsimp only
    rw [h1, dgs_lt (n := m) (by omega), show m % 10 = m by omega]
    rfl
theorem digitsP_fn (n : Nat) (h : n < 10000000000) : Fn Tryz.prog 31 [intD n] fun d => d = strD (dgs n) := by
  refine fnOf [] Tryz.func31 rfl (by kernel_rfl) (Nat.le_of_ble_eq_true rfl) ?_
  have hlen := dgs_len 9 n (by omega)
  conv => whnf
  refine ⟨Nat × List Nat × Bool, fun g => ⟨[(4, boolD g.2.2), (3, strD g.2.1), (0, intD g.1)], [], 0, ([], 0)⟩,
    DgAt n, fun g => match g.2.2 with | true => g.1 + 1 | false => 0, ⟨(n, [], true), [], [], ?_, ⟨fun _ => by simp, fun h => (by cases h), Nat.le_refl _⟩⟩, ?_⟩
  · repeat' (first | exact trivial | exact .inl (DLe.refl _) | exact .inl (DLe.nil _ _) | (refine .inr ⟨rfl, _, ?_, rfl⟩; rfl) | exact rfl | exact .inl rfl | exact .inr ⟨rfl, rfl, rfl, rfl⟩ | exact Nat.zero_le _ | constructor)
  · rintro ⟨m, out, ok⟩ hg
    cases ok with
    | false =>
      dsimp only
      conv => whnf
      have hd : out = dgs n := hg.2.1 rfl
      rw [hd]
    | true =>
      obtain ⟨hm, ho, hnext⟩ := DgAt.step hg
      have e1 : IntKind.u8.wrap (IntKind.i64.wrap (48 + (m : Int).tmod 10)) = ((48 + m % 10 : Nat) : Int) := by
        rw [Int.tmod_eq_emod_of_nonneg (by omega), IntWalk.i64_in _ (by omega), u8_small (by omega)]; omega
      have e2 : IntKind.i64.wrap ((m : Int).tdiv 10) = ((m / 10 : Nat) : Int) := by
        rw [Int.tdiv_eq_ediv_of_nonneg (by omega), IntWalk.i64_in _ (by omega)]; omega
      have e3 : decide (0 < ((m / 10 : Nat) : Int)) = decide (0 < m / 10) := decide_eq_decide.2 (by omega)
      dsimp only
      conv => whnf
      refine ⟨by decide, ?_⟩
      conv => whnf
      (refine ⟨by decide, ?_⟩; conv => whnf)
      refine op_bytesStr (L := [((48 + m % 10 : Nat) : Int)]) ttH rfl rfl rfl rfl ?_ rfl ?_
      · exact congrArg (fun x => some [[u8D x]]) e1
      rw [bytesOf_str, show [((48 + m % 10 : Nat) : Int)].map Int.toNat = [48 + m % 10] from rfl]
      conv => whnf
      refine ⟨str_le (by simp; omega), ?_⟩
      rw [strB_append]
      conv => whnf
      refine ⟨by decide, ?_⟩
      conv => whnf
      rw [e2]
      conv => whnf
      rw [e3]
      refine ⟨(m / 10, (48 + m % 10) :: out, decide (0 < m / 10)), [], [], ?_, hnext, ?_⟩
      · repeat' (first | exact trivial | exact .inl (DLe.refl _) | exact .inl (DLe.nil _ _) | (refine .inr ⟨rfl, _, ?_, rfl⟩; rfl) | exact rfl | exact .inl rfl | exact .inr ⟨rfl, rfl, rfl, rfl⟩ | exact Nat.zero_le _ | constructor)
      · show (match decide (0 < m / 10) with | true => m / 10 + 1 | false => 0) < m + 1
        cases h9 : decide (0 < m / 10) with
        | true => have := of_decide_eq_true h9; show m / 10 + 1 < m + 1; omega
        | false => exact Nat.succ_pos _
theorem digitsI_fn (n : Int) (h : 0 ≤ n ∧ n < 10000000000) : Fn Tryz.prog 31 [intD n] fun d => d = strD (dgI n) := by
  have := digitsP_fn n.toNat (by omega)
  rw [show ((n.toNat : Nat) : Int) = n by omega] at this
  exact this

theorem str_is {s t : List Nat} (hs : Byt s) (ht : Byt t) {b : Bool} (h : ((strB s).toList == (strB t).toList) = b) : (b = true → s = t) ∧ (b = false → s ≠ t) := by
  rw [strB_beq hs ht] at h
  subst h
  exact ⟨fun h => by simpa using h, fun h => by simpa using h⟩
theorem str_ne {s t : List Nat} (hs : Byt s) (ht : Byt t) {b : Bool} (h : (!((strB s).toList == (strB t).toList)) = b) : (b = true → s ≠ t) ∧ (b = false → s = t) := by
  rw [strB_beq hs ht] at h
  subst h
  exact ⟨fun h => by simpa using h, fun h => by simpa using h⟩
theorem numM_next {m : Nat} {bad : Int} {l : List Nat} {k n x : Nat} (hx : l[k]? = some x) (hs : numM m bad l 0 = numM m bad (l.drop k) n) : numM m bad l 0 = match isDig x && !decide (m < n) with
    | true => numM m bad (l.drop (k + 1)) (n * 10 + (x - 48))
    | false => bad := by
  have e : l.drop k = x :: l.drop (k + 1) := by
    have hk := (List.getElem?_eq_some_iff.1 hx).1
    rw [List.drop_eq_getElem_cons hk]
    congr 1
    rw [List.getElem?_eq_getElem hk] at hx
    injection hx
  rw [hs, e, numM]
  rfl

set_option maxHeartbeats 1000000 in
theorem number_fnP (l : List Nat) (hl : Byt l) : Fn Tryz.prog 23 [strD l] fun d => d = intD (numQ l) := by
  refine fnOf [] Tryz.func23 rfl (by kernel_rfl) (Nat.le_of_ble_eq_true rfl) ?_
  conv => whnf
  refine op_rangeStr ttH rfl rfl rfl ?_
  conv => whnf
  refine ⟨Nat × Nat, fun g => ⟨[(7, .loc 0 0), (3, intD g.2), (0, strD l)], [(0, strI (strB l) g.1)], 1, ([], 0)⟩,
    fun g => g.1 ≤ l.length ∧ g.2 ≤ 40959 ∧ numM 4095 (-1) l 0 = numM 4095 (-1) (l.drop g.1) g.2, fun g => l.length - g.1, ⟨(0, 0), [], [], ?_, Nat.zero_le _, Nat.zero_le _, rfl⟩, ?_⟩
  · repeat' (first | exact trivial | exact .inl (DLe.refl _) | exact .inl (DLe.nil _ _) | (refine .inr ⟨rfl, _, ?_, rfl⟩; rfl) | exact rfl | exact .inl rfl | exact .inr ⟨rfl, rfl, rfl, rfl⟩ | exact Nat.zero_le _ | constructor)
  · rintro ⟨k, n⟩ ⟨hk, hn, hs⟩
    dsimp only at hk hn hs
    dsimp only
    conv => whnf
    refine op_nextStr rfl rfl rfl (fun c w hlt hd => ?_) (fun hge => ?_)
    · rw [strB_size] at hlt
      obtain ⟨x, hx⟩ : ∃ x, l[k]? = some x := ⟨_, List.getElem?_eq_getElem hlt⟩
      have hx256 := hl.get hx
      have hne : l ≠ [] := fun e => by rw [e] at hlt; simp at hlt
      have hnx := numM_next hx hs
      rw [← numQ_ne hne] at hnx
      by_cases hx7 : x < 128
      · rw [decode_low hl hx hx7] at hd
        injection hd with hd1 hd2; subst hd1 hd2
        cases g1 : isDig x with
        | false =>
          rw [g1] at hnx
          rw [hnx]
          have g1' : ¬ (48 ≤ x ∧ x ≤ 57) := by
            intro h; unfold isDig at g1; rw [decide_eq_true h.1, decide_eq_true h.2] at g1; cases g1
          conv => whnf
          refine Fork.intro (fun g => ?_) (fun g => ?_)
          · conv => whnf
            rfl
          · conv => whnf
            refine Fork.intro (fun g2 => ?_) (fun g2 => absurd ⟨by have := of_decide_eq_false g; omega, by have := of_decide_eq_false g2; omega⟩ g1')
            conv => whnf
            rfl
        | true =>
          unfold isDig at g1
          simp only [Bool.and_eq_true, decide_eq_true_eq] at g1
          conv => whnf
          refine Fork.intro (fun g => absurd (of_decide_eq_true g) (by omega)) (fun g => ?_)
          conv => whnf
          refine Fork.intro (fun g => absurd (of_decide_eq_true g) (by omega)) (fun g => ?_)
          conv => whnf
          cases g2 : decide (4095 < n) with
          | true =>
            rw [g2] at hnx
            have hnx : numQ l = -1 := by rw [hnx]; simp
            rw [hnx]
            refine Fork.intro (fun g => ?_) (fun g => absurd (of_decide_eq_false g) (by have := of_decide_eq_true g2; omega))
            conv => whnf
          | false =>
            rw [g2, show isDig x = true by unfold isDig; rw [decide_eq_true g1.1, decide_eq_true g1.2]; rfl] at hnx
            have g2 := of_decide_eq_false g2
            rw [numQ_ne hne] at hnx
            refine Fork.intro (fun g => absurd (of_decide_eq_true g) (by omega)) (fun g => ?_)
            conv => whnf
            have e : IntKind.i64.wrap (IntKind.i64.wrap ((n : Int) * 10) + IntKind.i64.wrap (IntKind.i32.wrap ((x : Int) - 48))) = ((n * 10 + (x - 48) : Nat) : Int) := by
              rw [IntWalk.i32_in _ (by omega), IntWalk.i64_in (_ - _) (by omega), IntWalk.i64_in (_ * _) (by omega), IntWalk.i64_in _ (by omega)]; omega
            rw [e]
            refine ⟨(k + 1, n * 10 + (x - 48)), [], [], ?_, ⟨hlt, by show n * 10 + (x - 48) ≤ 40959; omega, hnx⟩, by show l.length - (k + 1) < l.length - k; omega⟩
            repeat' (first | exact trivial | exact .inl (DLe.refl _) | exact .inl (DLe.nil _ _) | (refine .inr ⟨rfl, _, ?_, rfl⟩; rfl) | exact rfl | exact .inl rfl | exact .inr ⟨rfl, rfl, rfl, rfl⟩ | exact Nat.zero_le _ | constructor)
      · have hc := decode_high hl hx hx7 hd
        rw [show isDig x = false by unfold isDig; rw [decide_eq_false (show ¬ x ≤ 57 by omega)]; simp] at hnx
        rw [hnx]
        conv => whnf
        refine Fork.intro (fun g => absurd (of_decide_eq_true g) (by omega)) (fun g => ?_)
        conv => whnf
        refine Fork.intro (fun g => ?_) (fun g => absurd (of_decide_eq_false g) (by omega))
        conv => whnf
        rfl
    · rw [strB_size] at hge
      obtain rfl : k = l.length := by omega
      conv => whnf
      refine Fork.intro (fun h => ?_) (fun h => ?_)
      · have h0 := (str_is hl .nil h).1 rfl
        subst h0
        conv => whnf
        rfl
      · have h0 := (str_is hl .nil h).2 rfl
        rw [numQ_ne h0, hs, List.drop_length, numM]
        conv => whnf

/-! ### May -/
theorem eqD_key (lo hi : Nat) : eqD [u64N lo, u64N hi] [.v (.int .u64 0), .v (.int .u64 0)] = decide (lo = 0 ∧ hi = 0) := by
  simp only [eqD, Bool.and_true]
  rw [show decide (((lo : Nat) : Int) = 0) = decide (lo = 0) from decide_eq_decide.2 (by omega), show decide (((hi : Nat) : Int) = 0) = decide (hi = 0) from decide_eq_decide.2 (by omega)]
  by_cases h : lo = 0 <;> by_cases k : hi = 0 <;> simp [h, k]
theorem maySB_of {a : Stp} {b : Bool} (h : b = true ↔ MayS a) : b = maySB a := by
  unfold maySB
  by_cases k : MayS a
  · rw [decide_eq_true k, h.2 k]
  · rw [decide_eq_false k, Bool.eq_false_iff]; exact fun g => k (h.1 g)
theorem may1 (nic num : Int) (fr : List Nat) (lo hi : Nat) : MayS ⟨1, nic, num, fr, lo, hi⟩ ↔ (0 ≤ nic ∧ nic ≤ 1) ∧ num = 0 ∧ fr.length ≤ 1600 ∧ lo = 0 ∧ hi = 0 := by
  unfold MayS; dsimp only
  constructor
  · rintro ⟨_, h2, h3, h4, h5, h6, h7, h8⟩
    try have a5 := h5 (by decide)
    try have a6 := h6 (by decide)
    try have a7 := h7 (by decide)
    try have a8 := h8 (by decide)
    clear h5 h6 h7 h8
    omega
  · intro h
    exact ⟨by decide, by omega, by omega, by omega, fun hh => by omega, fun hh => by omega, fun hh => by omega, fun hh => by omega⟩
theorem may2 (nic num : Int) (fr : List Nat) (lo hi : Nat) : MayS ⟨2, nic, num, fr, lo, hi⟩ ↔ (0 ≤ nic ∧ nic ≤ 1) ∧ (0 ≤ num ∧ num ≤ 4095) ∧ fr.length = 0 ∧ lo = 0 ∧ hi = 0 := by
  unfold MayS; dsimp only
  constructor
  · rintro ⟨_, h2, h3, h4, h5, h6, h7, h8⟩
    try have a5 := h5 (by decide)
    try have a6 := h6 (by decide)
    try have a7 := h7 (by decide)
    try have a8 := h8 (by decide)
    clear h5 h6 h7 h8
    omega
  · intro h
    exact ⟨by decide, by omega, by omega, by omega, fun hh => by omega, fun hh => by omega, fun hh => by omega, fun hh => by omega⟩
theorem may3 (nic num : Int) (fr : List Nat) (lo hi : Nat) : MayS ⟨3, nic, num, fr, lo, hi⟩ ↔ (0 ≤ nic ∧ nic ≤ 1) ∧ (0 ≤ num ∧ num ≤ 4095) ∧ fr.length = 0 ∧ lo = 0 ∧ hi = 0 := by
  unfold MayS; dsimp only
  constructor
  · rintro ⟨_, h2, h3, h4, h5, h6, h7, h8⟩
    try have a5 := h5 (by decide)
    try have a6 := h6 (by decide)
    try have a7 := h7 (by decide)
    try have a8 := h8 (by decide)
    clear h5 h6 h7 h8
    omega
  · intro h
    exact ⟨by decide, by omega, by omega, by omega, fun hh => by omega, fun hh => by omega, fun hh => by omega, fun hh => by omega⟩
theorem may4 (nic num : Int) (fr : List Nat) (lo hi : Nat) : MayS ⟨4, nic, num, fr, lo, hi⟩ ↔ nic = 0 ∧ (0 ≤ num ∧ num ≤ 4095) ∧ fr.length = 0 ∧ lo = 0 ∧ hi = 0 := by
  unfold MayS; dsimp only
  constructor
  · rintro ⟨_, h2, h3, h4, h5, h6, h7, h8⟩
    try have a5 := h5 (by decide)
    try have a6 := h6 (by decide)
    try have a7 := h7 (by decide)
    try have a8 := h8 (by decide)
    clear h5 h6 h7 h8
    omega
  · intro h
    exact ⟨by decide, by omega, by omega, by omega, fun hh => by omega, fun hh => by omega, fun hh => by omega, fun hh => by omega⟩
theorem may5 (nic num : Int) (fr : List Nat) (lo hi : Nat) : MayS ⟨5, nic, num, fr, lo, hi⟩ ↔ nic = 0 ∧ num = 0 ∧ fr.length = 0 := by
  unfold MayS; dsimp only
  constructor
  · rintro ⟨_, h2, h3, h4, h5, h6, h7, h8⟩
    try have a5 := h5 (by decide)
    try have a6 := h6 (by decide)
    try have a7 := h7 (by decide)
    try have a8 := h8 (by decide)
    clear h5 h6 h7 h8
    omega
  · intro h
    exact ⟨by decide, by omega, by omega, by omega, fun hh => by omega, fun hh => by omega, fun hh => by omega, fun hh => by omega⟩
theorem may0 {kind : Int} (nic num : Int) (fr : List Nat) (lo hi : Nat) (h : ¬ (1 ≤ kind ∧ kind ≤ 5)) : ¬ MayS ⟨kind, nic, num, fr, lo, hi⟩ := fun g => h g.1
set_option maxHeartbeats 4000000 in
theorem mayP_fn (a : Stp) : Fn Tryz.prog 26 [.agg (stD a)] fun d => d = boolD (maySB a) := by
  refine fnOf [] Tryz.func26 rfl (by kernel_rfl) (Nat.le_of_ble_eq_true rfl) ?_
  obtain ⟨kind, nic, num, frame, lo, hi⟩ := a
  by_cases hk : 1 ≤ kind ∧ kind ≤ 5
  · rcases k5_cases hk with rfl | rfl | rfl | rfl | rfl
    all_goals
      conv => whnf
      iterate 8
        all_goals (first | (refine Fork.intro (fun _ => ?_) (fun _ => ?_) <;> conv => whnf) | (refine ⟨eqKeyOk, rfl, ?_⟩; conv => whnf) | skip)
      all_goals
        refine congrArg boolD (maySB_of ?_)
        simp only [List.map_cons, List.map_nil, eqD_key, decide_eq_true_eq, decide_eq_false_iff_not, may1, may2, may3, may4, may5, Bool.false_eq_true, false_iff] at *
        omega
  · have hno := may0 nic num frame lo hi hk
    conv => whnf
    iterate 12
      all_goals (first | (refine Fork.intro (fun _ => ?_) (fun _ => ?_) <;> conv => whnf) | (refine ⟨eqKeyOk, rfl, ?_⟩; conv => whnf) | skip)
    all_goals first | exact congrArg boolD (maySB_of ⟨fun h => (by cases h), fun h => absurd h hno⟩) | (exfalso; simp only [decide_eq_true_eq] at *; omega)
end Go.Proofs.YtbjhkhhbdlnfbaaGreatDoor.V
namespace Go.Proofs.YtbjhkhhbdlnfbaaGreatDoor.V
open Go.RowKit
attribute [local irreducible] Fn FnN OpVC

/-! ### Plain -/
theorem wrap_nx {n : Nat} (h : n ≤ 4000000000) : IntKind.i64.wrap ((n : Int) + 1) = ((n + 1 : Nat) : Int) := by rw [IntWalk.i64_in _ (by omega)]; omega
theorem hexT_take {l : List Nat} {k x : Nat} (h : l[k]? = some x) : hexT (l.take (k + 1)) = hexT (l.take k) ++ [hx (x / 16), hx (x % 16)] := by
  rw [List.take_add_one, h, hexT_append]; rfl
theorem figs_byt : Byt figs := byt_of rfl
theorem figs_get {n : Nat} (hn : n < 16) {b : UInt8} (hb : (strB figs)[n]? = some b) : b.toNat = hx n := by
  have h1 := strB_get figs_byt hb
  have h2 : ∀ n, n < 16 → figs[n]? = some (hx n) := by decide
  rw [h2 n hn] at h1
  injection h1 with h1
  exact h1.symm
theorem u8_low4 (x : Nat) (hx : x < 256) : IntKind.u8.wrap (((BitVec.ofInt IntKind.u8.bits (x : Int) &&& BitVec.ofInt IntKind.u8.bits 15).toNat : Nat) : Int) = ((x % 16 : Nat) : Int) := by
  have h : (BitVec.ofInt 8 (x : Int) &&& BitVec.ofInt 8 15).toNat = x &&& 15 := by
    rw [BitVec.toNat_and, BitVec.toNat_ofInt, BitVec.toNat_ofInt]
    congr 1; omega
  rw [show (BitVec.ofInt IntKind.u8.bits (x : Int) &&& BitVec.ofInt IntKind.u8.bits 15).toNat = x &&& 15 from h]
  rw [show x &&& 15 = x % 16 from Nat.and_two_pow_sub_one_eq_mod x 4]
  exact u8_small (by omega)
theorem u8_put (a n : Nat) (ha : a < 16) (hn : n < 16) : IntKind.u8.wrap (((BitVec.ofInt IntKind.u8.bits (IntKind.u8.wrap ((a : Int) * 2 ^ (min (4 : Int).toNat IntKind.u8.bits))) ||| BitVec.ofInt IntKind.u8.bits (n : Int)).toNat : Nat) : Int) = ((a * 16 + n : Nat) : Int) := by
  have e : IntKind.u8.wrap ((a : Int) * 2 ^ (min (4 : Int).toNat IntKind.u8.bits)) = ((a * 16 : Nat) : Int) := by
    show IntKind.u8.wrap ((a : Int) * 16) = _
    rw [u8_small (by omega)]; omega
  rw [e]
  have h : (BitVec.ofInt 8 ((a * 16 : Nat) : Int) ||| BitVec.ofInt 8 (n : Int)).toNat = a * 16 ||| n := by
    rw [BitVec.toNat_or, BitVec.toNat_ofInt, BitVec.toNat_ofInt]
    congr 1 <;> omega
  rw [show (BitVec.ofInt IntKind.u8.bits ((a * 16 : Nat) : Int) ||| BitVec.ofInt IntKind.u8.bits (n : Int)).toNat = a * 16 ||| n from h]
  rw [show a * 16 ||| n = a * 16 + n by
    have := Nat.two_pow_add_eq_or_of_lt (i := 4) (b := n) hn a
    rw [Nat.mul_comm] at this; exact this.symm]
  exact u8_small (by omega)
theorem u32_step (a n : Nat) (ha : a < 4294967296) (hn : n < 256) : IntKind.u32.wrap (((BitVec.ofInt IntKind.u32.bits (IntKind.u32.wrap ((a : Int) * 2 ^ (min (8 : Int).toNat IntKind.u32.bits))) ||| BitVec.ofInt IntKind.u32.bits (IntKind.u32.wrap (n : Int))).toNat : Nat) : Int) = (((a * 256 + n) % 4294967296 : Nat) : Int) := by
  have e : IntKind.u32.wrap ((a : Int) * 2 ^ (min (8 : Int).toNat IntKind.u32.bits)) = IntKind.u32.wrap (((a % 16777216 : Nat) : Int) * 2 ^ (min (8 : Int).toNat IntKind.u32.bits)) := by
    show IntKind.u32.wrap ((a : Int) * 256) = IntKind.u32.wrap (((a % 16777216 : Nat) : Int) * 256)
    rw [u32_wrap, u32_wrap]; omega
  rw [e, u32_small (n := (n : Int)) (by omega), u32_put _ n (Nat.mod_lt _ (by decide)) hn]
  congr 1; omega
theorem u64_put (a n : Nat) (ha : a < 4294967296) (hn : n < 4294967296) : IntKind.u64.wrap (((BitVec.ofInt IntKind.u64.bits (IntKind.u64.wrap (IntKind.u64.wrap (a : Int) * 2 ^ (min (32 : Int).toNat IntKind.u64.bits))) ||| BitVec.ofInt IntKind.u64.bits (IntKind.u64.wrap (n : Int))).toNat : Nat) : Int) = ((a * 4294967296 + n : Nat) : Int) := by
  have w64 : ∀ m : Int, IntKind.u64.wrap m = m % 18446744073709551616 := fun m => by rw [IntKind.wrap]; rfl
  have e1 : IntKind.u64.wrap (a : Int) = (a : Int) := by rw [w64]; omega
  have e2 : IntKind.u64.wrap (n : Int) = (n : Int) := by rw [w64]; omega
  have e : IntKind.u64.wrap ((a : Int) * 2 ^ (min (32 : Int).toNat IntKind.u64.bits)) = ((a * 4294967296 : Nat) : Int) := by
    show IntKind.u64.wrap ((a : Int) * 4294967296) = _
    rw [w64]; omega
  rw [e1, e2, e]
  have h : (BitVec.ofInt 64 ((a * 4294967296 : Nat) : Int) ||| BitVec.ofInt 64 (n : Int)).toNat = a * 4294967296 ||| n := by
    rw [BitVec.toNat_or, BitVec.toNat_ofInt, BitVec.toNat_ofInt]
    congr 1 <;> omega
  rw [show (BitVec.ofInt IntKind.u64.bits ((a * 4294967296 : Nat) : Int) ||| BitVec.ofInt IntKind.u64.bits (n : Int)).toNat = a * 4294967296 ||| n from h]
  rw [show a * 4294967296 ||| n = a * 4294967296 + n by
    have := Nat.two_pow_add_eq_or_of_lt (i := 32) (b := n) hn a
    rw [Nat.mul_comm] at this; exact this.symm]
  rw [w64]; omega
theorem unhexT_all : ∀ {s l : List Nat}, unhexT s = some l → ∀ c, c ∈ s → unhex c ≠ none
  | [], _, _ => fun c hc => by cases hc
  | [_], _, h => by rw [unhexT_one] at h; cases h
  | a :: b :: r, l, h => by
    rw [unhexT] at h
    split at h
    · rename_i x y hx hy
      split at h
      · rename_i l' hl
        intro c hc
        rcases List.mem_cons.1 hc with rfl | hc
        · rw [hx]; simp
        · rcases List.mem_cons.1 hc with rfl | hc
          · rw [hy]; simp
          · exact unhexT_all hl c hc
      · cases h
    · cases h
theorem unhexT_bad {s : List Nat} {c : Nat} (hc : c ∈ s) (h : unhex c = none) : unhexT s = none := by
  cases hq : unhexT s with
  | none => rfl
  | some l => exact absurd h (unhexT_all hq c hc)
theorem unhexT_snoc : ∀ {p P : List Nat} {a b x y : Nat}, unhexT p = some P → unhex a = some x → unhex b = some y → unhexT (p ++ [a, b]) = some (P ++ [x * 16 + y])
  | [], P, a, b, x, y, h, ha, hb => by
    rw [unhexT_nil] at h; injection h with h; subst h
    show unhexT [a, b] = _
    rw [unhexT, ha, hb, unhexT_nil]; rfl
  | [_], P, a, b, x, y, h, _, _ => by rw [unhexT_one] at h; cases h
  | u :: v :: r, P, a, b, x, y, h, ha, hb => by
    rw [unhexT] at h
    split at h
    · rename_i x' y' hx hy
      split at h
      · rename_i l' hl
        injection h with h; subst h
        show unhexT (u :: v :: (r ++ [a, b])) = _
        rw [unhexT, hx, hy, unhexT_snoc hl ha hb]; rfl
      · cases h
    · cases h
theorem unhexT_odd : ∀ {s : List Nat}, s.length % 2 = 1 → unhexT s = none
  | [], h => by simp at h
  | [_], _ => unhexT_one _
  | a :: b :: r, h => by
    rw [unhexT, unhexT_odd (s := r) (by simp only [List.length_cons] at h; omega)]
    split <;> rfl
def unhexE (s : List Nat) : Int := match unhexT s with
  | some _ => 0
  | none => 3
def UhAt (l : List Nat) (g : Nat × List Nat) : Prop := g.1 ≤ l.length ∧ ∃ j P, unhexT (l.take (2 * j)) = some P ∧ P.length = j ∧ ((g.1 = 2 * j ∧ g.2 = P ++ List.replicate (l.length / 2 - j) 0) ∨
  (g.1 = 2 * j + 1 ∧ ∃ c a, l[2 * j]? = some c ∧ unhex c = some a ∧ g.2 = P ++ a :: List.replicate (l.length / 2 - j - 1) 0))
theorem UhAt.len {l : List Nat} (he : l.length % 2 = 0) {g : Nat × List Nat} (h : UhAt l g) : g.2.length = l.length / 2 := by
  obtain ⟨h0, j, P, h1, h2, ⟨h3, h4⟩ | ⟨h3, c, a, h4, h5, h6⟩⟩ := h
  · rw [h4, List.length_append, List.length_replicate]; omega
  · have := (List.getElem?_eq_some_iff.1 h4).1
    rw [h6, List.length_append, List.length_cons, List.length_replicate]; omega
theorem UhAt.byt {l : List Nat} {g : Nat × List Nat} (h : UhAt l g) {i x : Nat} (hi : i = g.1 / 2) (hx : g.2[i]? = some x) (hlt : g.1 < l.length) (he : l.length % 2 = 0) {c a : Nat} (hc : l[g.1]? = some c) (ha : unhex c = some a) :
    x < 16 ∧ a < 16 ∧ UhAt l (g.1 + 1, g.2.set i (x * 16 + a)) := by
  obtain ⟨k, M⟩ := g
  have hb := (unhex_some ha).1
  obtain ⟨h0, j, P, h1, h2, ⟨h3, h4⟩ | ⟨h3, c', a', h4, h5, h6⟩⟩ := h
  · dsimp only at *
    subst h3 h4 hi
    have hj : 2 * j / 2 = j := by omega
    rw [hj] at hx ⊢
    have hr : l.length / 2 - j = (l.length / 2 - j - 1) + 1 := by omega
    rw [hr, List.replicate_succ] at hx ⊢
    rw [List.getElem?_append_right (by omega), h2, Nat.sub_self] at hx
    simp only [List.getElem?_cons_zero, Option.some.injEq] at hx
    subst hx
    refine ⟨by decide, hb, hlt, j, P, h1, h2, .inr ⟨rfl, c, a, hc, ha, ?_⟩⟩
    dsimp only
    rw [List.set_append_right _ _ (by omega), h2, Nat.sub_self, List.set_cons_zero, Nat.zero_mul, Nat.zero_add]
  · dsimp only at *
    subst h3 h6 hi
    have hj : (2 * j + 1) / 2 = j := by omega
    rw [hj] at hx ⊢
    rw [List.getElem?_append_right (by omega), h2, Nat.sub_self] at hx
    simp only [List.getElem?_cons_zero, Option.some.injEq] at hx
    subst hx
    have hb' := (unhex_some h5).1
    refine ⟨hb', hb, hlt, j + 1, P ++ [a' * 16 + a], ?_, by simp [h2], .inl ⟨by show 2 * j + 1 + 1 = _; omega, ?_⟩⟩
    · rw [show 2 * (j + 1) = 2 * j + 1 + 1 by omega, List.take_add_one, hc, List.take_add_one, h4, List.append_assoc]
      exact unhexT_snoc h1 h5 ha
    · dsimp only
      rw [List.set_append_right _ _ (by omega), h2, Nat.sub_self, List.set_cons_zero, List.append_assoc, show l.length / 2 - (j + 1) = l.length / 2 - j - 1 by omega]; rfl
theorem UhAt.done {l : List Nat} (he : l.length % 2 = 0) {M : List Nat} (h : UhAt l (l.length, M)) : unhexT l = some M := by
  obtain ⟨h0, j, P, h1, h2, ⟨h3, h4⟩ | ⟨h3, c, a, h4, h5, h6⟩⟩ := h
  · dsimp only at *
    rw [← h3, List.take_length] at h1
    rw [h1, h4, show l.length / 2 - j = 0 by omega, List.replicate_zero, List.append_nil]
  · dsimp only at h3; omega
theorem UhAt.start (l : List Nat) : UhAt l (0, List.replicate (l.length / 2) 0) := ⟨Nat.zero_le _, 0, [], unhexT_nil, rfl, .inl ⟨rfl, by rw [Nat.sub_zero]; rfl⟩⟩

/-! ### Hex, Unhex -/
set_option maxHeartbeats 1000000 in
theorem hexP_fn (l : List Nat) (hl : Byt l) (hlen : l.length ≤ 1000000) : Fn Tryz.prog 32 [rowsN l] fun d => d = strD (hexT l) := by
  refine fnOf [] Tryz.func32 rfl (by kernel_rfl) (Nat.le_of_ble_eq_true rfl) ?_
  have e2 : IntKind.i64.wrap (2 * (l.length : Int)) = ((2 * l.length : Nat) : Int) := by rw [IntWalk.i64_in _ (by omega)]; omega
  conv => whnf
  rw [e2]
  refine op_makeCap (l := 0) (c := 2 * l.length) (β := Nat) (enc := byN) (zz := 0) ttH rfl rfl rfl rfl rfl (by decide) rfl (Nat.zero_le _) ⟨by omega, by show _ * 1 ≤ _; omega⟩ rfl ?_
  conv => whnf
  refine ⟨Nat, fun k => ⟨[(12, intD k), (11, intD l.length), (10, rowsN l), (3, .grow 0)], [(0, .grow Nat 5 1 byN (hexT (l.take k)))], 1, ([], 0)⟩, fun k => k ≤ l.length, fun k => l.length - k, ⟨0, [], [], ?_, Nat.zero_le _⟩, ?_⟩
  · repeat' (first | exact trivial | exact .inl (DLe.refl _) | exact .inl (DLe.nil _ _) | (refine .inr ⟨rfl, _, ?_, rfl⟩; rfl) | exact rfl | exact .inl rfl | exact .inr ⟨rfl, rfl, rfl, rfl⟩ | exact Nat.zero_le _ | constructor)
  · intro k hk
    replace hk : k ≤ l.length := hk
    have e0 := wrap_nx (n := k) (by omega)
    conv => whnf
    refine Fork.intro (fun h1 => ?_) (fun h1 => ?_)
    · have h1 := of_decide_eq_true h1
      conv => whnf
      refine ⟨rfl, ⟨by omega, h1⟩, fun x hxx => ?_⟩
      have hxx : l[k]? = some x := hxx
      have hx256 := hl.get hxx
      have hnext := hexT_take hxx
      have hk2 := hexT_len (l.take k)
      have hk3 : (l.take k).length = k := by rw [List.length_take]; omega
      have e1 : (x : Int).fdiv (2 ^ (min (4 : Int).toNat IntKind.u8.bits)) = ((x / 16 : Nat) : Int) := shr_at x 4
      have e3 := u8_low4 x hx256
      conv => whnf
      refine ⟨by decide, ?_⟩
      conv => whnf
      rw [e1]
      conv => whnf
      refine ⟨⟨by omega, by rw [show (⟨#[48, 49, 50, 51, 52, 53, 54, 55, 56, 57, 97, 98, 99, 100, 101, 102]⟩ : ByteArray) = strB figs from rfl, strB_size]; show _ < ((16 : Nat) : Int); omega⟩, fun b hb => ?_⟩
      have hb : b.toNat = hx (x / 16) := figs_get (by omega) (show (strB figs)[x / 16]? = some b from hb)
      rw [hb]
      conv => whnf
      rw [e3]
      refine ⟨⟨by omega, by rw [show (⟨#[48, 49, 50, 51, 52, 53, 54, 55, 56, 57, 97, 98, 99, 100, 101, 102]⟩ : ByteArray) = strB figs from rfl, strB_size]; show _ < ((16 : Nat) : Int); omega⟩, fun b2 hb2 => ?_⟩
      have hb2 : b2.toNat = hx (x % 16) := figs_get (by omega) (show (strB figs)[x % 16]? = some b2 from hb2)
      rw [hb2]
      conv => whnf
      refine ⟨by decide, ?_⟩
      conv => whnf
      refine ⟨Nat, byN, hexT (l.take k) ++ [hx (x / 16), hx (x % 16)], (by rw [List.map_append]; rfl), fun _ => rfl, by simp; omega, by simp; omega, rfl, ?_⟩
      rw [← hnext]
      conv => whnf
      rw [e0]
      refine ⟨k + 1, [(0, 1)], [], ?_, by show k + 1 ≤ l.length; omega, by show l.length - (k + 1) < l.length - k; omega⟩
      repeat' (first | exact trivial | exact .inl (DLe.refl _) | exact .inl (DLe.nil _ _) | (refine .inr ⟨rfl, _, ?_, rfl⟩; rfl) | exact rfl | exact .inl rfl | exact .inr ⟨rfl, rfl, rfl, rfl⟩ | exact Nat.zero_le _ | constructor)
    · have h1 := of_decide_eq_false h1
      obtain rfl : k = l.length := by omega
      rw [List.take_length]
      conv => whnf
      refine op_bytesStr (L := (hexT l).map fun n : Nat => (n : Int)) ttH rfl rfl rfl rfl ?_ rfl ?_
      · exact congrArg some (by rw [List.map_map]; rfl)
      rw [bytesOf_str, List.map_map, show (hexT l).map (Int.toNat ∘ fun n : Nat => (n : Int)) = hexT l from (List.map_congr_left fun n _ => Int.toNat_natCast n).trans (List.map_id _)]
      conv => whnf

theorem dle_pair {a a' b : D} (h : DLe a a') : DLe (.tup [a, b]) (.tup [a', b]) := fun C v hr => by
  cases hr with
  | tup hs hh =>
    refine .tup hs fun j d u hd hu => ?_
    match j, hd with
    | 0, hd => injection hd with hd; subst hd; exact h _ _ (hh 0 _ u rfl hu)
    | 1, hd => injection hd with hd; subst hd; exact hh 1 _ u rfl hu
    | j + 2, hd => simp at hd
abbrev unhexD (s : List Nat) : D := .tup [rowsN (unhexL s), intD (unhexE s)]
theorem unhexD_no {s : List Nat} (h : unhexT s = none) : unhexD s = .tup [rowsN [], intD 3] := by unfold unhexD unhexL unhexE; rw [h]; rfl
theorem unhexD_ok {s M : List Nat} (h : unhexT s = some M) : unhexD s = .tup [rowsN M, intD 0] := by unfold unhexD unhexL unhexE; rw [h]; rfl
theorem ixD_some {c a : Nat} (h : unhex c = some a) : ixD c = a := by unfold ixD; rw [h]
theorem ixD_none {c : Nat} (h : unhex c = none) : ixD c = -1 := by unfold ixD; rw [h]
set_option maxHeartbeats 2000000 in
theorem unhex0_fn (s : List Nat) (hs : Byt s) (hlen : s.length ≤ 1000000) : Fn Tryz.prog 24 [strD s] fun d => DLe d (unhexD s) := by
  refine fnOf [] Tryz.func24 rfl (by kernel_rfl) (Nat.le_of_ble_eq_true rfl) ?_
  have hsz : ((strB s).size : Int) = (s.length : Int) := by rw [strB_size]
  have hmod : ((strB s).size : Int).tmod 2 = ((s.length % 2 : Nat) : Int) := by rw [hsz, Int.tmod_eq_emod_of_nonneg (by omega)]; omega
  have hdiv : IntKind.i64.wrap (((strB s).size : Int).tdiv 2) = ((s.length / 2 : Nat) : Int) := by rw [hsz, Int.tdiv_eq_ediv_of_nonneg (by omega), IntWalk.i64_in _ (by omega)]; omega
  conv => whnf
  refine ⟨by decide, ?_⟩
  conv => whnf
  rw [hmod]
  refine Fork.intro (fun h => ?_) (fun h => ?_)
  · have h : s.length % 2 = 1 := by
      have : ¬ ((s.length % 2 : Nat) : Int) = 0 := by simpa using h
      omega
    rw [unhexD_no (unhexT_odd h)]
    conv => whnf
    exact dle_pair (DLe.nil _ _)
  have he : s.length % 2 = 0 := by
    have : ((s.length % 2 : Nat) : Int) = 0 := by simpa using h
    omega
  clear h
  conv => whnf
  refine ⟨by decide, ?_⟩
  conv => whnf
  rw [hdiv]
  refine op_makeCap (l := s.length / 2) (c := s.length / 2) (β := Nat) (enc := byN) (zz := 0) ttH rfl rfl rfl rfl rfl (by decide) rfl (Nat.le_refl _) ⟨by omega, by show _ * 1 ≤ _; omega⟩ rfl ?_
  conv => whnf
  refine op_rangeStr ttH rfl rfl rfl ?_
  conv => whnf
  refine ⟨Nat × List Nat, fun g => ⟨[(17, .loc 1 0), (4, .grow 0)], [(1, strI (strB s) g.1), (0, .grow Nat 5 1 byN g.2)], 2, ([], 0)⟩,
    UhAt s, fun g => s.length - g.1, ⟨(0, List.replicate (s.length / 2) 0), [], [], ?_, UhAt.start s⟩, ?_⟩
  · repeat' (first | exact trivial | exact .inl (DLe.refl _) | exact .inl (DLe.nil _ _) | (refine .inr ⟨rfl, _, ?_, rfl⟩; rfl) | exact rfl | exact .inl rfl | exact .inr ⟨rfl, rfl, rfl, rfl⟩ | exact Nat.zero_le _ | constructor)
  rintro ⟨k, M⟩ hg
  have hk := hg.1
  have hM := hg.len he
  dsimp only at hk hM
  dsimp only
  conv => whnf
  refine op_nextStr rfl rfl rfl (fun c w hlt hd => ?_) (fun hge => ?_)
  · rw [strB_size] at hlt
    obtain ⟨x, hxx⟩ : ∃ x, s[k]? = some x := ⟨_, List.getElem?_eq_getElem hlt⟩
    have hx256 := hs.get hxx
    have hmem := List.mem_of_getElem? hxx
    by_cases hx7 : x < 128
    · rw [decode_low hs hxx hx7] at hd
      injection hd with hd1 hd2; subst hd1 hd2
      have hix := index_fn x hx256
      conv => whnf
      rw [u8_small (n := (x : Int)) (by omega)]
      conv => whnf
      refine CallVC.pure hix rfl ?_
      rintro _ rfl
      conv => whnf
      refine Fork.intro (fun g => absurd (of_decide_eq_true g) (by omega)) (fun g => ?_)
      clear g
      cases hu : unhex x with
      | none =>
        rw [ixD_none hu, unhexD_no (unhexT_bad hmem hu)]
        conv => whnf
        exact dle_pair (DLe.nil _ _)
      | some a =>
        have ha := (unhex_some hu).1
        rw [ixD_some hu]
        conv => whnf
        have ek : IntKind.i64.wrap ((k : Int).tdiv 2) = ((k / 2 : Nat) : Int) := by rw [Int.tdiv_eq_ediv_of_nonneg (by omega), IntWalk.i64_in _ (by omega)]; omega
        refine ⟨by decide, ?_⟩
        conv => whnf
        refine ⟨by decide, ?_⟩
        conv => whnf
        rw [ek]
        refine ⟨rfl, ⟨by omega, by omega⟩, ?_⟩
        conv => whnf
        refine ⟨rfl, by omega, fun y hy => ?_⟩
        have hy : M[k / 2]? = some y := hy
        obtain ⟨hy16, _, hnext⟩ := hg.byt (i := k / 2) rfl hy hlt he hxx hu
        have hput := u8_put y a hy16 ha
        conv => whnf
        refine ⟨by decide, ?_⟩
        conv => whnf
        rw [u8_small (n := (a : Int)) (by omega), hput]
        refine ⟨rfl, ⟨by omega, by omega⟩, ?_⟩
        conv => whnf
        refine ⟨rfl, by omega, fun y2 hy2 => ?_⟩
        have hy2 : M[k / 2]? = some y2 := hy2
        obtain rfl : y = y2 := Option.some.inj (hy.symm.trans hy2)
        refine ⟨rfl, y * 16 + a, rfl, ?_⟩
        conv => whnf
        refine ⟨(k + 1, M.set (k / 2) (y * 16 + a)), [], [], ?_, hnext, by show s.length - (k + 1) < s.length - k; omega⟩
        repeat' (first | exact trivial | exact .inl (DLe.refl _) | exact .inl (DLe.nil _ _) | (refine .inr ⟨rfl, _, ?_, rfl⟩; rfl) | exact rfl | exact .inl rfl | exact .inr ⟨rfl, rfl, rfl, rfl⟩ | exact Nat.zero_le _ | constructor)
    · have hc := decode_high hs hxx hx7 hd
      have hun : unhex x = none := by
        cases hq : unhex x with
        | none => rfl
        | some a => have := unhex_some hq; have := hx_lt this.1; omega
      rw [unhexD_no (unhexT_bad hmem hun)]
      have hix : ∀ m : Int, 0 ≤ m ∧ m < 256 → ∃ j, Fn Tryz.prog 47 [strD figs, .v (.int .u8 m)] fun d => d = .v (.int .i64 j) := fun m hm => ⟨_, by
        have := index_fn m.toNat (by omega)
        rw [show ((m.toNat : Nat) : Int) = m by omega] at this
        exact this⟩
      obtain ⟨j, hix⟩ := hix (IntKind.u8.wrap (c : Int)) (by rw [u8_wrap']; omega)
      conv => whnf
      refine CallVC.pure hix rfl ?_
      rintro _ rfl
      conv => whnf
      refine Fork.intro (fun g => ?_) (fun g => absurd (of_decide_eq_false g) (by omega))
      conv => whnf
      exact dle_pair (DLe.nil _ _)
  · rw [strB_size] at hge
    obtain rfl : k = s.length := by omega
    rw [unhexD_ok (hg.done he)]
    conv => whnf
    exact DLe.refl _
theorem unhex_fn (s : List Nat) (hs : Byt s) (hlen : s.length ≤ 1000000) : Fn Tryz.prog 24 [strD s] fun d => d = unhexD s := Fn.exact (unhex0_fn s hs hlen)

/-! ### Halves of a key -/
theorem there_fn (l : List Nat) (at_ n : Nat) (hl : l.length ≤ 1000000) (h1 : at_ ≤ 1000000) (h2 : n ≤ 1000000) : Fn Tryz.prog 71 [rowsN l, intD at_, intD n] fun d => d = boolD (decide (at_ + n ≤ l.length)) := by
  refine fnOf [] Tryz.func71 rfl (by kernel_rfl) (Nat.le_of_ble_eq_true rfl) ?_
  conv => whnf
  refine Fork.intro (fun g => ?_) (fun g => ?_)
  · have g := of_decide_eq_true g
    conv => whnf
    refine congrArg boolD (decide_eq_decide.2 ?_)
    rw [IntWalk.i64_in _ (by omega)]; omega
  · have g := of_decide_eq_false g
    conv => whnf
    exact congrArg boolD (decide_eq_false (by omega)).symm
def fold32 (l : List Nat) : Nat := l.foldl (fun n x => (n * 256 + x) % 4294967296) 0
theorem fold32_take {l : List Nat} {k x : Nat} (h : l[k]? = some x) : fold32 (l.take (k + 1)) = (fold32 (l.take k) * 256 + x) % 4294967296 := by
  unfold fold32
  rw [List.take_add_one, h]
  show List.foldl _ _ (l.take k ++ [x]) = _
  rw [List.foldl_append]; rfl
theorem fold32_lt (l : List Nat) : fold32 l < 4294967296 := fold_lt _ (by decide) (fun n x => n * 256 + x) _ 0 (by decide)
theorem octnum_fn (l : List Nat) (hl : Byt l) (hlen : l.length ≤ 1000000) : Fn Tryz.prog 72 [rowsN l] fun d => d = u32D (fold32 l) := by
  refine fnOf [] Tryz.func72 rfl (by kernel_rfl) (Nat.le_of_ble_eq_true rfl) ?_
  conv => whnf
  refine ⟨Nat, fun k => ⟨[(8, intD k), (7, intD l.length), (6, rowsN l), (3, u32D (fold32 (l.take k)))], [], 0, ([], 0)⟩, fun k => k ≤ l.length, fun k => l.length - k, ⟨0, [], [], ?_, Nat.zero_le _⟩, ?_⟩
  · repeat' (first | exact trivial | exact .inl (DLe.refl _) | exact .inl (DLe.nil _ _) | (refine .inr ⟨rfl, _, ?_, rfl⟩; rfl) | exact rfl | exact .inl rfl | exact .inr ⟨rfl, rfl, rfl, rfl⟩ | exact Nat.zero_le _ | constructor)
  intro k hk
  replace hk : k ≤ l.length := hk
  have e0 := wrap_nx (n := k) (by omega)
  conv => whnf
  refine Fork.intro (fun h1 => ?_) (fun h1 => ?_)
  · have h1 := of_decide_eq_true h1
    conv => whnf
    refine ⟨rfl, ⟨by omega, h1⟩, fun x hxx => ?_⟩
    have hxx : l[k]? = some x := hxx
    have hx256 := hl.get hxx
    have hn := fold32_take hxx
    have hs := u32_step (fold32 (l.take k)) x (fold32_lt _) hx256
    conv => whnf
    refine ⟨by decide, ?_⟩
    conv => whnf
    rw [hs, e0, ← hn]
    refine ⟨k + 1, [], [], ?_, by show k + 1 ≤ l.length; omega, by show l.length - (k + 1) < l.length - k; omega⟩
    repeat' (first | exact trivial | exact .inl (DLe.refl _) | exact .inl (DLe.nil _ _) | (refine .inr ⟨rfl, _, ?_, rfl⟩; rfl) | exact rfl | exact .inl rfl | exact .inr ⟨rfl, rfl, rfl, rfl⟩ | exact Nat.zero_le _ | constructor)
  · have h1 := of_decide_eq_false h1
    obtain rfl : k = l.length := by omega
    rw [List.take_length]
    conv => whnf
theorem be32_eq (l : List Nat) (at_ : Nat) : be32 l at_ = match decide (at_ + 4 ≤ l.length) with
  | true => fold32 ((l.drop at_).take 4)
  | false => 0 := rfl
theorem get32_fn (l : List Nat) (at_ : Nat) (hl : Byt l) (hlen : l.length ≤ 1000000) (h1 : at_ ≤ 1000) : Fn Tryz.prog 48 [rowsN l, intD at_] fun d => d = .tup [u32D (be32 l at_), boolD (decide (at_ + 4 ≤ l.length))] := by
  refine fnOf [] Tryz.func48 rfl (by kernel_rfl) (Nat.le_of_ble_eq_true rfl) ?_
  have ht := there_fn l at_ 4 hlen (by omega) (by decide)
  rw [be32_eq]
  conv => whnf
  refine CallVC.pure ht rfl ?_
  rintro _ rfl
  cases h : decide (at_ + 4 ≤ l.length) with
  | false =>
    conv => whnf
    rfl
  | true =>
    have h := of_decide_eq_true h
    have e : IntKind.i64.wrap ((at_ : Int) + 4) = ((at_ + 4 : Nat) : Int) := by rw [IntWalk.i64_in _ (by omega)]; omega
    have hnum := octnum_fn ((l.drop at_).take 4) (by
      intro c hc; exact hl c (List.mem_of_mem_drop (List.mem_of_mem_take hc))) (by rw [List.length_take]; omega)
    have ed : (l.take (at_ + 4)).drop at_ = (l.drop at_).take 4 := by rw [List.drop_take]; congr 1; omega
    conv => whnf
    rw [e]
    refine ⟨rfl, ⟨by omega, by omega, by omega⟩, ?_⟩
    rw [show (l.take (((at_ + 4 : Nat) : Int)).toNat).drop ((at_ : Int)).toNat = (l.drop at_).take 4 from ed]
    conv => whnf
    refine CallVC.pure hnum rfl ?_
    rintro _ rfl
    conv => whnf
    rfl
theorem key_fn (s : List Nat) (hs : Byt s) (hlen : s.length ≤ 1000000) : Fn Tryz.prog 25 [strD s] fun d => d = u64N (pKey s) := by
  refine fnOf [] Tryz.func25 rfl (by kernel_rfl) (Nat.le_of_ble_eq_true rfl) ?_
  have hu := unhex_fn s hs hlen
  obtain ⟨hb, hbl⟩ := unhexL_byt s
  have h1 := get32_fn (unhexL s) 0 hb (by omega) (by decide)
  have h2 := get32_fn (unhexL s) 4 hb (by omega) (by decide)
  have h3 := u64_put (be32 (unhexL s) 0) (be32 (unhexL s) 4) (be32_lt _ _) (be32_lt _ _)
  have hp : pKey s = be32 (unhexL s) 0 * 4294967296 + be32 (unhexL s) 4 := rfl
  rw [hp]
  generalize be32 (unhexL s) 0 = x at *
  generalize be32 (unhexL s) 4 = y at *
  unfold unhexD at hu
  generalize unhexL s = b at *
  conv => whnf
  refine CallVC.pure hu rfl ?_
  rintro _ rfl
  conv => whnf
  refine CallVC.pure h1 rfl ?_
  rintro _ rfl
  conv => whnf
  refine CallVC.pure h2 rfl ?_
  rintro _ rfl
  conv => whnf
  refine ⟨by decide, ?_⟩
  conv => whnf
  rw [h3]
theorem be4_wrap (x : Nat) (_ : x < 4294967296) : IntKind.u8.wrap ((x : Int).fdiv (2 ^ (min (24 : Int).toNat IntKind.u32.bits))) = ((x / 16777216 % 256 : Nat) : Int) ∧ IntKind.u8.wrap ((x : Int).fdiv (2 ^ (min (16 : Int).toNat IntKind.u32.bits))) = ((x / 65536 % 256 : Nat) : Int) ∧
    IntKind.u8.wrap ((x : Int).fdiv (2 ^ (min (8 : Int).toNat IntKind.u32.bits))) = ((x / 256 % 256 : Nat) : Int) ∧ IntKind.u8.wrap (x : Int) = ((x % 256 : Nat) : Int) := by
  refine ⟨?_, ?_, ?_, ?_⟩
  · rw [u8_wrap', show (x : Int).fdiv (2 ^ (min (24 : Int).toNat IntKind.u32.bits)) = ((x / 16777216 : Nat) : Int) from shr_at x 24]; omega
  · rw [u8_wrap', show (x : Int).fdiv (2 ^ (min (16 : Int).toNat IntKind.u32.bits)) = ((x / 65536 : Nat) : Int) from shr_at x 16]; omega
  · rw [u8_wrap', show (x : Int).fdiv (2 ^ (min (8 : Int).toNat IntKind.u32.bits)) = ((x / 256 : Nat) : Int) from shr_at x 8]; omega
  · rw [u8_wrap']; omega
theorem clone_nil {s : St} {K : D → St → Prop} (h : K (.v (.slice none 0 0)) s) : CallVC Tryz.prog false 73 [.v (.slice none 0 0)] s K := by
  refine goIn [] Tryz.func73 rfl (by kernel_rfl) (Nat.le_of_ble_eq_true rfl) ?_
  conv => whnf
  exact h
set_option maxHeartbeats 1000000 in
theorem put32N_fn (a b : Nat) (ha : a < 4294967296) (hb : b < 4294967296) : Fn Tryz.prog 50 [.v (.slice none 0 0), .lit 1 [[u32D a], [u32D b]]] fun d => d = rowsN (be4 a ++ be4 b) := by
  refine fnOf [] Tryz.func50 rfl (by kernel_rfl) (Nat.le_of_ble_eq_true rfl) ?_
  obtain ⟨a1, a2, a3, a4⟩ := be4_wrap a ha
  obtain ⟨b1, b2, b3, b4⟩ := be4_wrap b hb
  conv => whnf
  refine clone_nil ?_
  conv => whnf
  refine ⟨Nat, fun k => ⟨[(12, intD k), (11, intD 2), (10, .lit 1 [[u32D a], [u32D b]]), (5, .grow 0)], [(0, .grow Nat 5 1 byN (match k with | 0 => [] | 1 => be4 a | _ + 2 => be4 a ++ be4 b))], 1, ([], 0)⟩, fun k => k ≤ 2, fun k => 2 - k, ⟨0, [], [0], ?_, Nat.zero_le _⟩, ?_⟩
  · repeat' (first | exact trivial | exact .inl (DLe.refl _) | exact .inl (DLe.nil _ _) | (refine .inr ⟨rfl, _, ?_, rfl⟩; rfl) | exact rfl | exact .inl rfl | exact .inr ⟨rfl, rfl, rfl, rfl⟩ | exact Nat.zero_le _ | constructor)
  · intro k hk
    rcases (by have : k ≤ 2 := hk; omega : k = 0 ∨ k = 1 ∨ k = 2) with rfl | rfl | rfl
    · conv => whnf
      refine ⟨rfl, ?_⟩
      conv => whnf
      refine ⟨by decide, ?_⟩
      conv => whnf
      refine ⟨by decide, ?_⟩
      conv => whnf
      refine ⟨by decide, ?_⟩
      conv => whnf
      rw [a1, a2, a3, a4]
      (refine ⟨Nat.le_of_ble_eq_true rfl, ?_⟩; conv => whnf)
      refine ⟨Nat, byN, be4 a, rfl, fun _ => rfl, by simp [be4], by simp [be4], rfl, ?_⟩
      conv => whnf
      refine ⟨1, [(0, 1)], [], ?_, by decide, by decide⟩
      repeat' (first | exact trivial | exact .inl (DLe.refl _) | exact .inl (DLe.nil _ _) | (refine .inr ⟨rfl, _, ?_, rfl⟩; rfl) | exact rfl | exact .inl rfl | exact .inr ⟨rfl, rfl, rfl, rfl⟩ | exact Nat.zero_le _ | constructor)
    · conv => whnf
      refine ⟨rfl, ?_⟩
      conv => whnf
      refine ⟨by decide, ?_⟩
      conv => whnf
      refine ⟨by decide, ?_⟩
      conv => whnf
      refine ⟨by decide, ?_⟩
      conv => whnf
      rw [b1, b2, b3, b4]
      (refine ⟨Nat.le_of_ble_eq_true rfl, ?_⟩; conv => whnf)
      refine ⟨Nat, byN, be4 a ++ be4 b, rfl, fun _ => rfl, by simp [be4], by simp [be4], rfl, ?_⟩
      conv => whnf
      refine ⟨2, [(0, 1)], [], ?_, by decide, by decide⟩
      repeat' (first | exact trivial | exact .inl (DLe.refl _) | exact .inl (DLe.nil _ _) | (refine .inr ⟨rfl, _, ?_, rfl⟩; rfl) | exact rfl | exact .inl rfl | exact .inr ⟨rfl, rfl, rfl, rfl⟩ | exact Nat.zero_le _ | constructor)
    · conv => whnf
theorem half_fn (n : Nat) (hn : n < 18446744073709551616) : Fn Tryz.prog 33 [u64N n] fun d => d = strD (halfT n) := by
  refine fnOf [] Tryz.func33 rfl (by kernel_rfl) (Nat.le_of_ble_eq_true rfl) ?_
  have hp := put32N_fn (n / 4294967296) (n % 4294967296) (by omega) (Nat.mod_lt _ (by decide))
  have hh := hexP_fn (be8 n) (be8_byt n) (by show 4 + 4 ≤ _; decide)
  have e1 : IntKind.u32.wrap ((n : Int).fdiv (2 ^ (min (32 : Int).toNat IntKind.u64.bits))) = ((n / 4294967296 : Nat) : Int) := by
    rw [u32_wrap, show (n : Int).fdiv (2 ^ (min (32 : Int).toNat IntKind.u64.bits)) = ((n / 4294967296 : Nat) : Int) from shr_at n 32]; omega
  have e2 : IntKind.u32.wrap (n : Int) = ((n % 4294967296 : Nat) : Int) := by rw [u32_wrap]; omega
  conv => whnf
  refine ⟨by decide, ?_⟩
  conv => whnf
  rw [e1, e2]
  conv => whnf
  refine ⟨by decide, ?_⟩
  conv => whnf
  refine CallVC.pure hp rfl ?_
  rintro _ rfl
  conv => whnf
  refine CallVC.pure hh rfl ?_
  rintro _ rfl
  conv => whnf
  rfl
end Go.Proofs.YtbjhkhhbdlnfbaaGreatDoor.V
namespace Go.Proofs.YtbjhkhhbdlnfbaaGreatDoor.V
open Go.RowKit
attribute [local irreducible] Fn FnN OpVC

theorem join3 (a b c : List Nat) : joinN [32] [a, b, c] = a ++ 32 :: (b ++ 32 :: c) := by simp [joinN, List.intercalate]
theorem join2 (a b : List Nat) : joinN [32] [a, b] = a ++ 32 :: b := by simp [joinN, List.intercalate]
theorem join3_fn {a b c : List Nat} (ha : Byt a) (hb : Byt b) (hc : Byt c) (hl : a.length + b.length + c.length ≤ 100000) : FnN Tryz.prog 34 [rowsT [a, b, c], strD [32]] fun d => d = strD (a ++ 32 :: (b ++ 32 :: c)) := by
  have := join_c [a, b, c] [32] (fun x hx => by
    simp only [List.mem_cons, List.not_mem_nil, or_false] at hx
    rcases hx with rfl | rfl | rfl <;> assumption) (byt_of rfl) (by simp) (by rw [join3]; simp only [List.length_append, List.length_cons]; omega)
  rwa [join3] at this
theorem join2_fn {a b : List Nat} (ha : Byt a) (hb : Byt b) (hl : a.length + b.length ≤ 100000) : FnN Tryz.prog 34 [rowsT [a, b], strD [32]] fun d => d = strD (a ++ 32 :: b) := by
  have := join_c [a, b] [32] (fun x hx => by
    simp only [List.mem_cons, List.not_mem_nil, or_false] at hx
    rcases hx with rfl | rfl <;> assumption) (byt_of rfl) (by simp) (by rw [join2]; simp only [List.length_append, List.length_cons]; omega)
  rwa [join2] at this
theorem hexT_ne {l : List Nat} (h : l ≠ []) : hexT l ≠ [] := by
  cases l with
  | nil => exact absurd rfl h
  | cons x l => rw [hexT_cons]; simp
theorem frameT_cons {l : List Nat} (h : l ≠ []) : frameT l = hexT l := by
  unfold frameT
  rw [decide_eq_false (fun g => h (List.eq_nil_of_length_eq_zero g))]
set_option maxHeartbeats 4000000 in
theorem lineP_fn (a : Stp) (ok : a.ok) : Fn Tryz.prog 9 [.agg (stD a)] fun d => d = strD (lineS a) := by
  refine fnOf [(14, [0, 1, 2, 3, 5, 6, 7, 4, 8, 9, 10, 11])] Tryz.func9 rfl (by kernel_rfl) (Nat.le_of_ble_eq_true rfl) ?_
  have hm := mayP_fn a
  cases hmb : maySB a with
  | false =>
    rw [hmb] at hm
    have e : lineS a = [] := by unfold lineS; rw [hmb]
    rw [e]
    conv => whnf
    refine CallVC.pure hm rfl ?_
    rintro _ rfl
    conv => whnf
    rfl
  | true =>
  rw [hmb] at hm
  have may : MayS a := of_decide_eq_true hmb
  rw [lineS_may may]
  have hw := stWord_fn a.kind
  obtain ⟨kind, nic, num, frame, lo, hi⟩ := a
  have kf := ok.frame; have kl := ok.lo; have kh := ok.hi
  have hop := may.1
  have m2 := may.2.1; have m3 := may.2.2.1; have m4 := may.2.2.2.1
  dsimp only at *
  have hnic := digitsI_fn nic (by omega)
  have hnum := digitsI_fn num (by omega)
  have hhex := hexP_fn frame kf (by omega)
  have hlo := half_fn lo kl
  have hhi := half_fn hi kh
  have ln : (dgI nic).length ≤ 10 := dgs_len 9 nic.toNat (by omega)
  have lm : (dgI num).length ≤ 10 := dgs_len 9 num.toNat (by omega)
  have lf := frameT_len frame
  have bn := dgI_byt nic; have bm := dgI_byt num
  have bf := frameT_byt kf
  have bl := halfT_byt lo; have bh := halfT_byt hi
  have ll := halfT_len lo; have lh := halfT_len hi
  clear hmb may
  rcases k5_cases hop with rfl | rfl | rfl | rfl | rfl
  · have hj := join3_fn (a := wFrame) (byt_of rfl) bn bf (by show 5 + _ + _ ≤ _; omega)
    have hres : stN ⟨1, nic, num, frame, lo, hi⟩ = wFrame ++ 32 :: (dgI nic ++ 32 :: frameT frame) := rfl
    rw [hres]
    generalize wFrame ++ 32 :: (dgI nic ++ 32 :: frameT frame) = ln at *
    generalize dgI nic = di at *
    replace hw : Fn Tryz.prog 22 [intD 1] fun d => d = strD wFrame := hw
    conv => whnf
    refine CallVC.pure hm rfl ?_
    rintro _ rfl
    conv => whnf
    refine CallVC.pure hw rfl ?_
    rintro _ rfl
    conv => whnf
    refine ⟨by decide, ?_⟩
    conv => whnf
    refine CallVC.pure hnic rfl ?_
    rintro _ rfl
    conv => whnf
    refine ⟨by decide, ?_⟩
    conv => whnf
    refine op_appendLit (LL := [[strD wFrame]]) (new := [[strD di]]) (β := List Nat) (enc := strE) (L := [wFrame, di]) ttH rfl rfl rfl rfl rfl (by decide) rfl (by simp) rfl rfl rfl (Nat.le_of_ble_eq_true rfl) rfl (fun _ => rfl) (Nat.le_of_ble_eq_true rfl) (Nat.le_of_ble_eq_true rfl) ?_
    conv => whnf
    refine CallVC.pure hhex rfl ?_
    rintro _ rfl
    conv => whnf
    refine Fork.intro (fun h => ?_) (fun h => ?_)
    · have h0 := (str_is (hexT_byt kf) .nil h).1 rfl
      have hf : frame = [] := by
        cases frame with
        | nil => rfl
        | cons x l => exact absurd h0 (hexT_ne (by simp))
      subst hf
      rw [show frameT [] = [45] from rfl] at hj
      conv => whnf
      refine ⟨by decide, ?_⟩
      conv => whnf
      refine ⟨List Nat, strE, [wFrame, di, [45]], rfl, fun _ => rfl, Nat.le_of_ble_eq_true rfl, Nat.le_of_ble_eq_true rfl, rfl, ?_⟩
      conv => whnf
      refine CallVC.look hj rfl ?_
      rintro _ rfl
      conv => whnf
    · have h0 := (str_is (hexT_byt kf) .nil h).2 rfl
      have hf : frame ≠ [] := fun e => h0 (by rw [e]; rfl)
      rw [frameT_cons hf] at hj
      generalize hexT frame = hf2 at *
      conv => whnf
      refine ⟨by decide, ?_⟩
      conv => whnf
      refine ⟨List Nat, strE, [wFrame, di, hf2], rfl, fun _ => rfl, Nat.le_of_ble_eq_true rfl, Nat.le_of_ble_eq_true rfl, rfl, ?_⟩
      conv => whnf
      refine CallVC.look hj rfl ?_
      rintro _ rfl
      conv => whnf
  · have hj := join3_fn (a := wPoll) (byt_of rfl) bn bm (by show 4 + _ + _ ≤ _; omega)
    have hres : stN ⟨2, nic, num, frame, lo, hi⟩ = wPoll ++ 32 :: (dgI nic ++ 32 :: dgI num) := rfl
    rw [hres]
    generalize wPoll ++ 32 :: (dgI nic ++ 32 :: dgI num) = ln at *
    generalize dgI nic = di at *
    generalize dgI num = dn at *
    replace hw : Fn Tryz.prog 22 [intD 2] fun d => d = strD wPoll := hw
    conv => whnf
    refine CallVC.pure hm rfl ?_
    rintro _ rfl
    conv => whnf
    refine CallVC.pure hw rfl ?_
    rintro _ rfl
    conv => whnf
    refine ⟨by decide, ?_⟩
    conv => whnf
    refine CallVC.pure hnic rfl ?_
    rintro _ rfl
    conv => whnf
    refine ⟨by decide, ?_⟩
    conv => whnf
    refine op_appendLit (LL := [[strD wPoll]]) (new := [[strD di]]) (β := List Nat) (enc := strE) (L := [wPoll, di]) ttH rfl rfl rfl rfl rfl (by decide) rfl (by simp) rfl rfl rfl (Nat.le_of_ble_eq_true rfl) rfl (fun _ => rfl) (Nat.le_of_ble_eq_true rfl) (Nat.le_of_ble_eq_true rfl) ?_
    conv => whnf
    refine CallVC.pure hnum rfl ?_
    rintro _ rfl
    conv => whnf
    refine ⟨by decide, ?_⟩
    conv => whnf
    refine ⟨List Nat, strE, [wPoll, di, dn], rfl, fun _ => rfl, Nat.le_of_ble_eq_true rfl, Nat.le_of_ble_eq_true rfl, rfl, ?_⟩
    conv => whnf
    refine CallVC.look hj rfl ?_
    rintro _ rfl
    conv => whnf
  · have hj := join3_fn (a := wDone) (byt_of rfl) bn bm (by show 4 + _ + _ ≤ _; omega)
    have hres : stN ⟨3, nic, num, frame, lo, hi⟩ = wDone ++ 32 :: (dgI nic ++ 32 :: dgI num) := rfl
    rw [hres]
    generalize wDone ++ 32 :: (dgI nic ++ 32 :: dgI num) = ln at *
    generalize dgI nic = di at *
    generalize dgI num = dn at *
    replace hw : Fn Tryz.prog 22 [intD 3] fun d => d = strD wDone := hw
    conv => whnf
    refine CallVC.pure hm rfl ?_
    rintro _ rfl
    conv => whnf
    refine CallVC.pure hw rfl ?_
    rintro _ rfl
    conv => whnf
    refine ⟨by decide, ?_⟩
    conv => whnf
    refine CallVC.pure hnic rfl ?_
    rintro _ rfl
    conv => whnf
    refine ⟨by decide, ?_⟩
    conv => whnf
    refine op_appendLit (LL := [[strD wDone]]) (new := [[strD di]]) (β := List Nat) (enc := strE) (L := [wDone, di]) ttH rfl rfl rfl rfl rfl (by decide) rfl (by simp) rfl rfl rfl (Nat.le_of_ble_eq_true rfl) rfl (fun _ => rfl) (Nat.le_of_ble_eq_true rfl) (Nat.le_of_ble_eq_true rfl) ?_
    conv => whnf
    refine CallVC.pure hnum rfl ?_
    rintro _ rfl
    conv => whnf
    refine ⟨by decide, ?_⟩
    conv => whnf
    refine ⟨List Nat, strE, [wDone, di, dn], rfl, fun _ => rfl, Nat.le_of_ble_eq_true rfl, Nat.le_of_ble_eq_true rfl, rfl, ?_⟩
    conv => whnf
    refine CallVC.look hj rfl ?_
    rintro _ rfl
    conv => whnf
  · have hj := join2_fn (a := wTick) (byt_of rfl) bm (by show 4 + _ ≤ _; omega)
    have hres : stN ⟨4, nic, num, frame, lo, hi⟩ = wTick ++ 32 :: dgI num := rfl
    rw [hres]
    generalize wTick ++ 32 :: dgI num = ln at *
    generalize dgI num = dn at *
    replace hw : Fn Tryz.prog 22 [intD 4] fun d => d = strD wTick := hw
    conv => whnf
    refine CallVC.pure hm rfl ?_
    rintro _ rfl
    conv => whnf
    refine CallVC.pure hw rfl ?_
    rintro _ rfl
    conv => whnf
    refine ⟨by decide, ?_⟩
    conv => whnf
    refine CallVC.pure hnum rfl ?_
    rintro _ rfl
    conv => whnf
    refine ⟨by decide, ?_⟩
    conv => whnf
    refine op_appendLit (LL := [[strD wTick]]) (new := [[strD dn]]) (β := List Nat) (enc := strE) (L := [wTick, dn]) ttH rfl rfl rfl rfl rfl (by decide) rfl (by simp) rfl rfl rfl (Nat.le_of_ble_eq_true rfl) rfl (fun _ => rfl) (Nat.le_of_ble_eq_true rfl) (Nat.le_of_ble_eq_true rfl) ?_
    conv => whnf
    refine CallVC.look hj rfl ?_
    rintro _ rfl
    conv => whnf
  · have hj := join3_fn (a := wSecret) (byt_of rfl) bl bh (by show 6 + _ + _ ≤ _; omega)
    have hres : stN ⟨5, nic, num, frame, lo, hi⟩ = wSecret ++ 32 :: (halfT lo ++ 32 :: halfT hi) := rfl
    rw [hres]
    generalize wSecret ++ 32 :: (halfT lo ++ 32 :: halfT hi) = ln at *
    generalize halfT lo = tl at *
    generalize halfT hi = th at *
    replace hw : Fn Tryz.prog 22 [intD 5] fun d => d = strD wSecret := hw
    conv => whnf
    refine CallVC.pure hm rfl ?_
    rintro _ rfl
    conv => whnf
    refine CallVC.pure hw rfl ?_
    rintro _ rfl
    conv => whnf
    refine ⟨by decide, ?_⟩
    conv => whnf
    refine CallVC.pure hlo rfl ?_
    rintro _ rfl
    conv => whnf
    refine CallVC.pure hhi rfl ?_
    rintro _ rfl
    conv => whnf
    refine ⟨by decide, ?_⟩
    conv => whnf
    refine op_appendLit (LL := [[strD wSecret]]) (new := [[strD tl], [strD th]]) (β := List Nat) (enc := strE) (L := [wSecret, tl, th]) ttH rfl rfl rfl rfl rfl (by decide) rfl (by simp) rfl rfl rfl (Nat.le_of_ble_eq_true rfl) rfl (fun _ => rfl) (Nat.le_of_ble_eq_true rfl) (Nat.le_of_ble_eq_true rfl) ?_
    conv => whnf
    refine CallVC.look hj rfl ?_
    rintro _ rfl
    conv => whnf
end Go.Proofs.YtbjhkhhbdlnfbaaGreatDoor.V
namespace Go.Proofs.YtbjhkhhbdlnfbaaGreatDoor.V
open Go.RowKit
attribute [local irreducible] Fn FnN OpVC

theorem wd_at {s : List Nat} {i : Nat} (h : i < 3) {x : List Nat} (hx : (spl 32 s ++ [[], []])[i]? = some x) : x = wd s i := by
  unfold wd
  rw [List.getD_eq_getElem?_getD]
  by_cases hi : i < (spl 32 s).length
  · rw [List.getElem?_append_left hi] at hx
    rw [hx]; rfl
  · rw [List.getElem?_append_right (by omega)] at hx
    rw [List.getElem?_eq_none (by omega)]
    have : x ∈ ([[], []] : List (List Nat)) := List.mem_of_getElem? hx
    simpa using this
theorem wd_byt {s : List Nat} (hs : Byt s) (i : Nat) : Byt (wd s i) := by
  unfold wd
  rw [List.getD_eq_getElem?_getD]
  cases hq : (spl 32 s)[i]? with
  | none => exact .nil
  | some x => exact splB_byt hs (List.mem_of_getElem? hq)
theorem wd_len (s : List Nat) (i : Nat) : (wd s i).length ≤ s.length := by
  unfold wd
  rw [List.getD_eq_getElem?_getD]
  cases hq : (spl 32 s)[i]? with
  | none => simp
  | some x => exact (splB_mem _ s x (List.mem_of_getElem? hq)).1
abbrev stF (fr : D) (a : Stp) : List D := [intD a.kind, intD a.nic, intD a.num, fr, u64N a.lo, u64N a.hi]
theorem dle_stF {fr : D} {a : Stp} (h : DLe fr (rowsN a.frame)) : DLe (.agg (stF fr a)) (.agg (stD a)) := fun C v hr => by
  cases hr with
  | agg hs hh =>
    refine .agg hs fun j d u hd hu => ?_
    match j, hd with
    | 0, hd => exact hh 0 d u hd hu
    | 1, hd => exact hh 1 d u hd hu
    | 2, hd => exact hh 2 d u hd hu
    | 3, hd => injection hd with hd; subst hd; exact h _ _ (hh 3 _ u rfl hu)
    | 4, hd => exact hh 4 d u hd hu
    | 5, hd => exact hh 5 d u hd hu
    | n + 6, hd => simp [stD] at hd
theorem reps_one {C : Ctx} {d d' : D} {vs : List Value} (h : DLe d d') (hr : reps C [d] vs) : reps C [d'] vs := by
  refine ⟨hr.1, fun j x u hx hu => ?_⟩
  match j, hx with
  | 0, hx => injection hx with hx; subst hx; exact h _ _ (hr.2 0 d u rfl hu)
  | j + 1, hx => simp at hx
theorem mayF_fn {fr : D} (a : Stp) (h : DLe fr (rowsN a.frame)) : Fn Tryz.prog 26 [.agg (stF fr a)] fun d => d = boolD (maySB a) := (mayP_fn a).le fun _ _ hr => reps_one (dle_stF h) hr
theorem lineF_fn {fr : D} (a : Stp) (ok : a.ok) (h : DLe fr (rowsN a.frame)) : Fn Tryz.prog 9 [.agg (stF fr a)] fun d => d = strD (lineS a) := (lineP_fn a ok).le fun _ _ hr => reps_one (dle_stF h) hr
abbrev readD (r : Stp × Int) : D := .tup [.agg (stD r.1), intD r.2]
theorem dle_nilN : DLe (.v (.slice none 0 0)) (rowsN []) := DLe.nil _ _
theorem dle_zero : DLe (.agg [intD 0, intD 0, intD 0, .v (.slice none 0 0), .v (.int .u64 0), .v (.int .u64 0)]) (.agg (stD zeroS)) := dle_stF (a := zeroS) dle_nilN
theorem pReadS_of {s : List Nat} {n : Int} (h : kindAt (wd s 0) 5 = n) : pReadS s = match maySB (pStpAt s n) && decide (lineS (pStpAt s n) = s) with
    | true => (pStpAt s n, 0)
    | false => (zeroS, 3) := by
  unfold pReadS pStp; rw [h]; rfl
attribute [local irreducible] DLe
set_option maxHeartbeats 8000000 in
theorem pread0_fn (s : List Nat) (hs : Byt s) (hl : s.length ≤ 1000000) : Fn Tryz.prog 7 [strD s] fun d => DLe d (readD (pReadS s)) := by
  refine fnOf [(14, [0, 1, 2, 4, 5, 6, 3, 8, 7, 9, 10, 11]), (18, [0, 1, 2, 4, 5, 6, 3, 7, 8, 9, 10])] Tryz.func7 rfl (by kernel_rfl) (Nat.le_of_ble_eq_true rfl) ?_
  have hsl : (spl 32 s).length ≤ s.length + 1 := splB_len _ s
  have hs0 : 0 < (spl 32 s).length := Nat.pos_of_ne_zero fun h => splB_ne _ s (List.eq_nil_of_length_eq_zero h)
  have hwb := wd_byt hs
  have hwl := wd_len s
  generalize hL0 : spl 32 s ++ [[], []] = LL
  have hat : ∀ i, i < 3 → ∀ x, LL[i]? = some x → x = wd s i := fun i hi x hx => by subst hL0; exact wd_at hi hx
  have hLL : LL.length = (spl 32 s).length + 2 := by rw [← hL0, List.length_append]; rfl
  have hL : ∀ i : Nat, i < 3 → (i : Int) < (LL.length : Int) := fun i hi => by omega
  have hN : ∀ i : Nat, i < 3 → i < LL.length := fun i hi => by omega
  have hmap : LL.map strE = (spl 32 s).map strE ++ [[strD []], [strD []]] := by rw [← hL0, List.map_append]; rfl
  clear hL0
  conv => whnf
  refine split_vc (c := 32) s hs hl (by decide) ?_
  conv => whnf
  refine ⟨by decide, ?_⟩
  conv => whnf
  refine ⟨List Nat, strE, LL, hmap, fun _ => rfl, by omega, by show LL.length * 16 ≤ _; omega, rfl, ?_⟩
  conv => whnf
  refine ⟨Nat, fun k => ⟨[(6, intD (k + 1 : Nat)), (5, .loc 2 0), (4, .grow 1), (2, .loc 0 0), (0, strD s)], [(0, .cells 27 [intD 0, intD 0, intD 0, .v (.slice none 0 0), .v (.int .u64 0), .v (.int .u64 0)]), (1, .grow (List Nat) 9 1 strE LL),
      (2, .cells 27 [intD (kindAt (wd s 0) k), intD 0, intD 0, .v (.slice none 0 0), .v (.int .u64 0), .v (.int .u64 0)])], 3, ([], 0)⟩, fun k => k ≤ 5, fun k => 5 - k, ⟨0, [(1, 2), (2, 3)], [], ?_, by decide⟩, ?_⟩
  · repeat' (first | exact trivial | exact .inl (DLe.refl _) | exact .inl (DLe.nil _ _) | (refine .inr ⟨rfl, _, ?_, rfl⟩; rfl) | exact rfl | exact .inl rfl | exact .inr ⟨rfl, rfl, rfl, rfl⟩ | exact Nat.zero_le _ | constructor)
  intro k hk
  replace hk : k ≤ 5 := hk
  have e0 := wrap_nx (n := k + 1) (by omega)
  conv => whnf
  refine Fork.intro (fun h1 => ?_) (fun h1 => ?_)
  · have h1 := of_decide_eq_true h1
    have hka : kindAt (wd s 0) (k + 1) = match decide (wd s 0 = stW ((k + 1 : Nat) : Int)) with
      | true => ((k + 1 : Nat) : Int)
      | false => kindAt (wd s 0) k := rfl
    conv => whnf
    refine ⟨rfl, ⟨by decide, hL 0 (by decide)⟩, ?_⟩
    conv => whnf
    refine ⟨rfl, hN 0 (by decide), fun x hx => ?_⟩
    obtain rfl := hat 0 (by decide) x hx
    clear hx
    conv => whnf
    refine CallVC.pure (stWord_fn ((k + 1 : Nat) : Int)) rfl ?_
    rintro _ rfl
    conv => whnf
    refine Fork.intro (fun h2 => ?_) (fun h2 => ?_)
    · have h2 := (str_is (hwb 0) (stW_byt _) h2).1 rfl
      rw [decide_eq_true h2] at hka
      replace hka : kindAt (wd s 0) (k + 1) = ((k + 1 : Nat) : Int) := hka
      conv => whnf
      rw [e0]
      refine ⟨k + 1, [], [], ?_, by show k + 1 ≤ 5; omega, by show 5 - (k + 1) < 5 - k; omega⟩
      dsimp only
      rw [hka]
      repeat' (first | exact trivial | exact .inl (DLe.refl _) | exact .inl (DLe.nil _ _) | (refine .inr ⟨rfl, _, ?_, rfl⟩; rfl) | exact rfl | exact .inl rfl | exact .inr ⟨rfl, rfl, rfl, rfl⟩ | exact Nat.zero_le _ | constructor)
    · have h2 := (str_is (hwb 0) (stW_byt _) h2).2 rfl
      rw [decide_eq_false h2] at hka
      replace hka : kindAt (wd s 0) (k + 1) = kindAt (wd s 0) k := hka
      conv => whnf
      rw [e0]
      refine ⟨k + 1, [], [], ?_, by show k + 1 ≤ 5; omega, by show 5 - (k + 1) < 5 - k; omega⟩
      dsimp only
      rw [hka]
      repeat' (first | exact trivial | exact .inl (DLe.refl _) | exact .inl (DLe.nil _ _) | (refine .inr ⟨rfl, _, ?_, rfl⟩; rfl) | exact rfl | exact .inl rfl | exact .inr ⟨rfl, rfl, rfl, rfl⟩ | exact Nat.zero_le _ | constructor)
  have h1 := of_decide_eq_false h1
  obtain rfl : k = 5 := by omega
  clear h1 e0 hk
  have hfl := kindAt_le (wd s 0) 5
  generalize hop : kindAt (wd s 0) 5 = op at hfl
  have hr := pReadS_of hop
  have hok := pStpAt_ok s op hfl
  have hopc : op = 0 ∨ op = 1 ∨ op = 2 ∨ op = 3 ∨ op = 4 ∨ op = 5 := by omega
  have hlby := lineS_byt hok
  clear hop hfl
  rcases hopc with rfl | rfl | rfl | rfl | rfl | rfl
  · have hdl : DLe (.v (.slice none 0 0)) (rowsN (pStpAt s 0).frame) := dle_nilN
    have hmay := mayF_fn (pStpAt s 0) hdl
    have hlin := lineF_fn (pStpAt s 0) hok hdl
    have hfin := dle_stF hdl
    conv => whnf
    refine CallVC.pure hmay rfl ?_
    rintro _ rfl
    cases hm : maySB (pStpAt s 0) with
    | false =>
      rw [hm] at hr
      rw [hr]
      conv => whnf
      exact dle_pair dle_zero
    | true =>
      rw [hm] at hr
      conv => whnf
      refine CallVC.pure hlin rfl ?_
      rintro _ rfl
      conv => whnf
      refine Fork.intro (fun h => ?_) (fun h => ?_)
      · have h2 : lineS (pStpAt s 0) ≠ s := (str_ne hlby hs h).1 rfl
        rw [decide_eq_false h2] at hr
        rw [hr]
        conv => whnf
        exact dle_pair dle_zero
      · have h2 : lineS (pStpAt s 0) = s := (str_ne hlby hs h).2 rfl
        rw [decide_eq_true h2] at hr
        rw [hr]
        conv => whnf
        exact dle_pair hfin
  · have hdl : DLe (rowsN (unhexL (wd s 2))) (rowsN (pStpAt s 1).frame) := DLe.refl _
    have hmay := mayF_fn (pStpAt s 1) hdl
    have hlin := lineF_fn (pStpAt s 1) hok hdl
    have hfin := dle_stF hdl
    conv => whnf
    refine ⟨rfl, ⟨by decide, hL 1 (by decide)⟩, ?_⟩
    conv => whnf
    refine ⟨rfl, hN 1 (by decide), fun x hx => ?_⟩
    obtain rfl := hat 1 (by decide) x hx
    clear hx
    conv => whnf
    refine CallVC.pure (number_fnP _ (hwb 1)) rfl ?_
    rintro _ rfl
    conv => whnf
    refine ⟨rfl, ⟨by decide, hL 2 (by decide)⟩, ?_⟩
    conv => whnf
    refine ⟨rfl, hN 2 (by decide), fun x hx => ?_⟩
    obtain rfl := hat 2 (by decide) x hx
    clear hx
    conv => whnf
    refine CallVC.pure (unhex_fn _ (hwb 2) (by have := hwl 2; omega)) rfl ?_
    rintro _ rfl
    conv => whnf
    refine CallVC.pure hmay rfl ?_
    rintro _ rfl
    cases hm : maySB (pStpAt s 1) with
    | false =>
      rw [hm] at hr
      rw [hr]
      conv => whnf
      exact dle_pair dle_zero
    | true =>
      rw [hm] at hr
      conv => whnf
      refine CallVC.pure hlin rfl ?_
      rintro _ rfl
      conv => whnf
      refine Fork.intro (fun h => ?_) (fun h => ?_)
      · have h2 : lineS (pStpAt s 1) ≠ s := (str_ne hlby hs h).1 rfl
        rw [decide_eq_false h2] at hr
        rw [hr]
        conv => whnf
        exact dle_pair dle_zero
      · have h2 : lineS (pStpAt s 1) = s := (str_ne hlby hs h).2 rfl
        rw [decide_eq_true h2] at hr
        rw [hr]
        conv => whnf
        exact dle_pair hfin
  · have hdl : DLe (.v (.slice none 0 0)) (rowsN (pStpAt s 2).frame) := dle_nilN
    have hmay := mayF_fn (pStpAt s 2) hdl
    have hlin := lineF_fn (pStpAt s 2) hok hdl
    have hfin := dle_stF hdl
    conv => whnf
    refine ⟨rfl, ⟨by decide, hL 1 (by decide)⟩, ?_⟩
    conv => whnf
    refine ⟨rfl, hN 1 (by decide), fun x hx => ?_⟩
    obtain rfl := hat 1 (by decide) x hx
    clear hx
    conv => whnf
    refine ⟨rfl, ⟨by decide, hL 2 (by decide)⟩, ?_⟩
    conv => whnf
    refine ⟨rfl, hN 2 (by decide), fun x hx => ?_⟩
    obtain rfl := hat 2 (by decide) x hx
    clear hx
    conv => whnf
    refine CallVC.pure (number_fnP _ (hwb 1)) rfl ?_
    rintro _ rfl
    conv => whnf
    refine CallVC.pure (number_fnP _ (hwb 2)) rfl ?_
    rintro _ rfl
    conv => whnf
    refine CallVC.pure hmay rfl ?_
    rintro _ rfl
    cases hm : maySB (pStpAt s 2) with
    | false =>
      rw [hm] at hr
      rw [hr]
      conv => whnf
      exact dle_pair dle_zero
    | true =>
      rw [hm] at hr
      conv => whnf
      refine CallVC.pure hlin rfl ?_
      rintro _ rfl
      conv => whnf
      refine Fork.intro (fun h => ?_) (fun h => ?_)
      · have h2 : lineS (pStpAt s 2) ≠ s := (str_ne hlby hs h).1 rfl
        rw [decide_eq_false h2] at hr
        rw [hr]
        conv => whnf
        exact dle_pair dle_zero
      · have h2 : lineS (pStpAt s 2) = s := (str_ne hlby hs h).2 rfl
        rw [decide_eq_true h2] at hr
        rw [hr]
        conv => whnf
        exact dle_pair hfin
  · have hdl : DLe (.v (.slice none 0 0)) (rowsN (pStpAt s 3).frame) := dle_nilN
    have hmay := mayF_fn (pStpAt s 3) hdl
    have hlin := lineF_fn (pStpAt s 3) hok hdl
    have hfin := dle_stF hdl
    conv => whnf
    refine ⟨rfl, ⟨by decide, hL 1 (by decide)⟩, ?_⟩
    conv => whnf
    refine ⟨rfl, hN 1 (by decide), fun x hx => ?_⟩
    obtain rfl := hat 1 (by decide) x hx
    clear hx
    conv => whnf
    refine ⟨rfl, ⟨by decide, hL 2 (by decide)⟩, ?_⟩
    conv => whnf
    refine ⟨rfl, hN 2 (by decide), fun x hx => ?_⟩
    obtain rfl := hat 2 (by decide) x hx
    clear hx
    conv => whnf
    refine CallVC.pure (number_fnP _ (hwb 1)) rfl ?_
    rintro _ rfl
    conv => whnf
    refine CallVC.pure (number_fnP _ (hwb 2)) rfl ?_
    rintro _ rfl
    conv => whnf
    refine CallVC.pure hmay rfl ?_
    rintro _ rfl
    cases hm : maySB (pStpAt s 3) with
    | false =>
      rw [hm] at hr
      rw [hr]
      conv => whnf
      exact dle_pair dle_zero
    | true =>
      rw [hm] at hr
      conv => whnf
      refine CallVC.pure hlin rfl ?_
      rintro _ rfl
      conv => whnf
      refine Fork.intro (fun h => ?_) (fun h => ?_)
      · have h2 : lineS (pStpAt s 3) ≠ s := (str_ne hlby hs h).1 rfl
        rw [decide_eq_false h2] at hr
        rw [hr]
        conv => whnf
        exact dle_pair dle_zero
      · have h2 : lineS (pStpAt s 3) = s := (str_ne hlby hs h).2 rfl
        rw [decide_eq_true h2] at hr
        rw [hr]
        conv => whnf
        exact dle_pair hfin
  · have hdl : DLe (.v (.slice none 0 0)) (rowsN (pStpAt s 4).frame) := dle_nilN
    have hmay := mayF_fn (pStpAt s 4) hdl
    have hlin := lineF_fn (pStpAt s 4) hok hdl
    have hfin := dle_stF hdl
    conv => whnf
    refine ⟨rfl, ⟨by decide, hL 1 (by decide)⟩, ?_⟩
    conv => whnf
    refine ⟨rfl, hN 1 (by decide), fun x hx => ?_⟩
    obtain rfl := hat 1 (by decide) x hx
    clear hx
    conv => whnf
    refine CallVC.pure (number_fnP _ (hwb 1)) rfl ?_
    rintro _ rfl
    conv => whnf
    refine CallVC.pure hmay rfl ?_
    rintro _ rfl
    cases hm : maySB (pStpAt s 4) with
    | false =>
      rw [hm] at hr
      rw [hr]
      conv => whnf
      exact dle_pair dle_zero
    | true =>
      rw [hm] at hr
      conv => whnf
      refine CallVC.pure hlin rfl ?_
      rintro _ rfl
      conv => whnf
      refine Fork.intro (fun h => ?_) (fun h => ?_)
      · have h2 : lineS (pStpAt s 4) ≠ s := (str_ne hlby hs h).1 rfl
        rw [decide_eq_false h2] at hr
        rw [hr]
        conv => whnf
        exact dle_pair dle_zero
      · have h2 : lineS (pStpAt s 4) = s := (str_ne hlby hs h).2 rfl
        rw [decide_eq_true h2] at hr
        rw [hr]
        conv => whnf
        exact dle_pair hfin
  · have hdl : DLe (.v (.slice none 0 0)) (rowsN (pStpAt s 5).frame) := dle_nilN
    have hmay := mayF_fn (pStpAt s 5) hdl
    have hlin := lineF_fn (pStpAt s 5) hok hdl
    have hfin := dle_stF hdl
    conv => whnf
    refine ⟨rfl, ⟨by decide, hL 1 (by decide)⟩, ?_⟩
    conv => whnf
    refine ⟨rfl, hN 1 (by decide), fun x hx => ?_⟩
    obtain rfl := hat 1 (by decide) x hx
    clear hx
    conv => whnf
    refine ⟨rfl, ⟨by decide, hL 2 (by decide)⟩, ?_⟩
    conv => whnf
    refine ⟨rfl, hN 2 (by decide), fun x hx => ?_⟩
    obtain rfl := hat 2 (by decide) x hx
    clear hx
    conv => whnf
    refine CallVC.pure (key_fn _ (hwb 1) (by have := hwl 1; omega)) rfl ?_
    rintro _ rfl
    conv => whnf
    refine CallVC.pure (key_fn _ (hwb 2) (by have := hwl 2; omega)) rfl ?_
    rintro _ rfl
    conv => whnf
    refine CallVC.pure hmay rfl ?_
    rintro _ rfl
    cases hm : maySB (pStpAt s 5) with
    | false =>
      rw [hm] at hr
      rw [hr]
      conv => whnf
      exact dle_pair dle_zero
    | true =>
      rw [hm] at hr
      conv => whnf
      refine CallVC.pure hlin rfl ?_
      rintro _ rfl
      conv => whnf
      refine Fork.intro (fun h => ?_) (fun h => ?_)
      · have h2 : lineS (pStpAt s 5) ≠ s := (str_ne hlby hs h).1 rfl
        rw [decide_eq_false h2] at hr
        rw [hr]
        conv => whnf
        exact dle_pair dle_zero
      · have h2 : lineS (pStpAt s 5) = s := (str_ne hlby hs h).2 rfl
        rw [decide_eq_true h2] at hr
        rw [hr]
        conv => whnf
        exact dle_pair hfin
theorem pread_fn (s : List Nat) (hs : Byt s) (hl : s.length ≤ 1000000) : Fn Tryz.prog 7 [strD s] fun d => d = readD (pReadS s) := Fn.exact (pread0_fn s hs hl)
end Go.Proofs.YtbjhkhhbdlnfbaaGreatDoor.V
namespace Go.Proofs.YtbjhkhhbdlnfbaaGreatDoor.V
open Go.RowKit
attribute [local irreducible] Fn FnN OpVC DLe

set_option maxHeartbeats 1000000 in
theorem digitsR_fn (n : Nat) (h : n < 4294967296) : Fn Tryz.prog 35 [.v (.int .u32 n)] fun d => d = strD (dgs n) := by
  refine fnOf [] Tryz.func35 rfl (by kernel_rfl) (Nat.le_of_ble_eq_true rfl) ?_
  have hlen := dgs_len 9 n (by omega)
  conv => whnf
  refine ⟨Nat × List Nat, fun g => ⟨[(3, strD g.2), (0, .v (.int .u32 g.1))], [], 0, ([], 0)⟩, fun g => g.1 ≤ n ∧ dgs n = dgs g.1 ++ g.2, fun g => g.1, ⟨(n, []), [], [], ?_, Nat.le_refl _, (List.append_nil _).symm⟩, ?_⟩
  · repeat' (first | exact trivial | exact .inl (DLe.refl _) | exact .inl (DLe.nil _ _) | (refine .inr ⟨rfl, _, ?_, rfl⟩; rfl) | exact rfl | exact .inl rfl | exact .inr ⟨rfl, rfl, rfl, rfl⟩ | exact Nat.zero_le _ | constructor)
  · rintro ⟨m, out⟩ ⟨hm, he⟩
    dsimp only at hm he
    have ho : out.length ≤ 10 := by have := congrArg List.length he; rw [List.length_append] at this; omega
    dsimp only
    conv => whnf
    refine Fork.intro (fun h1 => ?_) (fun h1 => ?_)
    · have h1 := of_decide_eq_true h1
      have e1 : IntKind.u8.wrap (IntKind.u32.wrap (48 + (m : Int).tmod 10)) = ((48 + m % 10 : Nat) : Int) := by
        rw [Int.tmod_eq_emod_of_nonneg (by omega), u32_small (by omega), u8_small (by omega)]; omega
      have e2 : IntKind.u32.wrap ((m : Int).tdiv 10) = ((m / 10 : Nat) : Int) := by
        rw [Int.tdiv_eq_ediv_of_nonneg (by omega), u32_small (by omega)]; omega
      conv => whnf
      refine ⟨by decide, ?_⟩
      conv => whnf
      (refine ⟨by decide, ?_⟩; conv => whnf)
      refine op_bytesStr (L := [((48 + m % 10 : Nat) : Int)]) ttH rfl rfl rfl rfl ?_ rfl ?_
      · exact congrArg (fun x => some [[u8D x]]) e1
      rw [bytesOf_str, show [((48 + m % 10 : Nat) : Int)].map Int.toNat = [48 + m % 10] from rfl]
      conv => whnf
      refine ⟨str_le (by simp; omega), ?_⟩
      rw [strB_append]
      conv => whnf
      refine ⟨by decide, ?_⟩
      conv => whnf
      rw [e2]
      refine ⟨(m / 10, (48 + m % 10) :: out), [], [], ?_, ⟨by show m / 10 ≤ n; omega, ?_⟩, by show m / 10 < m; omega⟩
      · repeat' (first | exact trivial | exact .inl (DLe.refl _) | exact .inl (DLe.nil _ _) | (refine .inr ⟨rfl, _, ?_, rfl⟩; rfl) | exact rfl | exact .inl rfl | exact .inr ⟨rfl, rfl, rfl, rfl⟩ | exact Nat.zero_le _ | constructor)
      · show dgs n = dgs (m / 10) ++ (48 + m % 10) :: out
        rw [he, dgs_ge (n := m) (by omega)]; simp
    · have h1 := of_decide_eq_false h1
      have e1 : IntKind.u8.wrap (IntKind.u32.wrap (48 + (m : Int))) = ((48 + m : Nat) : Int) := by
        rw [u32_small (by omega), u8_small (by omega)]; omega
      conv => whnf
      (refine ⟨by decide, ?_⟩; conv => whnf)
      refine op_bytesStr (L := [((48 + m : Nat) : Int)]) ttH rfl rfl rfl rfl ?_ rfl ?_
      · exact congrArg (fun x => some [[u8D x]]) e1
      rw [bytesOf_str, show [((48 + m : Nat) : Int)].map Int.toNat = [48 + m] from rfl]
      conv => whnf
      refine ⟨str_le (by simp; omega), ?_⟩
      rw [strB_append]
      conv => whnf
      rw [he, dgs_lt (n := m) (by omega)]
theorem digitsRI_fn (n : Int) (h : 0 ≤ n ∧ n < 4294967296) : Fn Tryz.prog 35 [.v (.int .u32 n)] fun d => d = strD (dgI n) := by
  have := digitsR_fn n.toNat (by omega)
  rw [show ((n.toNat : Nat) : Int) = n by omega] at this
  exact this
theorem rfig_fn (n : Nat) (hn : n < 16) : Fn Tryz.prog 49 [u8D n] fun d => d = u8D (hx n) := by
  refine fnOf [] Tryz.func49 rfl (by kernel_rfl) (Nat.le_of_ble_eq_true rfl) ?_
  unfold hx
  conv => whnf
  refine Fork.intro (fun h => ?_) (fun h => ?_)
  · have h := of_decide_eq_true h
    rw [if_pos (by omega)]
    conv => whnf
    rw [u8_small (by omega), show (48 : Int) + (n : Int) = ((48 + n : Nat) : Int) by omega]
  · have h := of_decide_eq_false h
    rw [if_neg (by omega)]
    conv => whnf
    rw [u8_small (n := 97 + (n : Int)) (by omega), u8_small (by omega), show (97 : Int) + (n : Int) - 10 = ((87 + n : Nat) : Int) by omega]
theorem u8_quo (x : Nat) (hx : x < 256) : IntKind.u8.wrap ((x : Int).tdiv 16) = ((x / 16 : Nat) : Int) := by
  rw [Int.tdiv_eq_ediv_of_nonneg (by omega), u8_small (by omega)]; omega
theorem u8_rem (x : Nat) : ((x : Nat) : Int).tmod 16 = ((x % 16 : Nat) : Int) := by
  rw [Int.tmod_eq_emod_of_nonneg (by omega)]; omega
set_option maxHeartbeats 1000000 in
theorem hexR_fn (l : List Nat) (hl : Byt l) (hlen : l.length ≤ 1000000) : Fn Tryz.prog 36 [rowsN l] fun d => d = strD (hexT l) := by
  refine fnOf [] Tryz.func36 rfl (by kernel_rfl) (Nat.le_of_ble_eq_true rfl) ?_
  conv => whnf
  refine ⟨Nat, fun k => ⟨[(4, intD k), (3, .grow 0), (0, rowsN l)], [(0, .grow Nat 5 1 byN (hexT (l.take k)))], 1, ([], 0)⟩, fun k => k ≤ l.length, fun k => l.length - k, ⟨0, [], [], ?_, Nat.zero_le _⟩, ?_⟩
  · repeat' (first | exact trivial | exact .inl (DLe.refl _) | exact .inl (DLe.nil _ _) | (refine .inr ⟨rfl, _, ?_, rfl⟩; rfl) | exact rfl | exact .inl rfl | exact .inr ⟨rfl, rfl, rfl, rfl⟩ | exact Nat.zero_le _ | constructor)
  intro k hk
  replace hk : k ≤ l.length := hk
  have e0 := wrap_nx (n := k) (by omega)
  conv => whnf
  refine Fork.intro (fun h1 => ?_) (fun h1 => ?_)
  · have h1 := of_decide_eq_true h1
    have hk2 := hexT_len (l.take k)
    have hk3 : (l.take k).length = k := by rw [List.length_take]; omega
    obtain ⟨x, hxx⟩ : ∃ x, l[k]? = some x := ⟨_, List.getElem?_eq_getElem (by omega)⟩
    have hx256 := hl.get hxx
    have hnext := hexT_take hxx
    have e1 := u8_quo x hx256
    have e2 := u8_rem x
    have f1 := rfig_fn (x / 16) (by omega)
    have f2 := rfig_fn (x % 16) (by omega)
    conv => whnf
    refine ⟨rfl, ⟨by omega, h1⟩, fun y hy => ?_⟩
    have hy : l[k]? = some y := hy
    obtain rfl : x = y := Option.some.inj (hxx.symm.trans hy)
    clear hy
    conv => whnf
    refine ⟨by decide, ?_⟩
    conv => whnf
    rw [e1]
    refine CallVC.pure f1 rfl ?_
    rintro _ rfl
    conv => whnf
    refine ⟨by decide, ?_⟩
    conv => whnf
    refine ⟨Nat, byN, hexT (l.take k) ++ [hx (x / 16)], (by rw [List.map_append]; rfl), fun _ => rfl, by simp; omega, by simp; omega, rfl, ?_⟩
    conv => whnf
    refine ⟨rfl, ⟨by omega, h1⟩, fun y hy => ?_⟩
    have hy : l[k]? = some y := hy
    obtain rfl : x = y := Option.some.inj (hxx.symm.trans hy)
    clear hy
    conv => whnf
    refine ⟨by decide, ?_⟩
    conv => whnf
    rw [e2]
    refine CallVC.pure f2 rfl ?_
    rintro _ rfl
    conv => whnf
    refine ⟨by decide, ?_⟩
    conv => whnf
    refine ⟨Nat, byN, hexT (l.take (k + 1)), (by rw [hnext, List.map_append, List.map_append, List.append_assoc]; rfl), fun _ => rfl, by rw [hnext]; simp; omega, by rw [hnext]; simp; omega, rfl, ?_⟩
    conv => whnf
    rw [e0]
    refine ⟨k + 1, [(0, 2)], [], ?_, by show k + 1 ≤ l.length; omega, by show l.length - (k + 1) < l.length - k; omega⟩
    repeat' (first | exact trivial | exact .inl (DLe.refl _) | exact .inl (DLe.nil _ _) | (refine .inr ⟨rfl, _, ?_, rfl⟩; rfl) | exact rfl | exact .inl rfl | exact .inr ⟨rfl, rfl, rfl, rfl⟩ | exact Nat.zero_le _ | constructor)
  · have h1 := of_decide_eq_false h1
    obtain rfl : k = l.length := by omega
    rw [List.take_length]
    conv => whnf
    refine op_bytesStr (L := (hexT l).map fun n : Nat => (n : Int)) ttH rfl rfl rfl rfl ?_ rfl ?_
    · exact congrArg some (by rw [List.map_map]; rfl)
    rw [bytesOf_str, List.map_map, show (hexT l).map (Int.toNat ∘ fun n : Nat => (n : Int)) = hexT l from (List.map_congr_left fun n _ => Int.toNat_natCast n).trans (List.map_id _)]
    conv => whnf
end Go.Proofs.YtbjhkhhbdlnfbaaGreatDoor.V
namespace Go.Proofs.YtbjhkhhbdlnfbaaGreatDoor.V
open Go.RowKit
attribute [local irreducible] Fn FnN OpVC DLe

/-! ### Unhex -/
def figN (c f : Nat) : Nat := match unhex c with
  | some a => if a < f then a else 16
  | none => 16
theorem figN_step {c f : Nat} (hf : f < 16) : (c = hx f → figN c (f + 1) = f) ∧ (c ≠ hx f → figN c (f + 1) = figN c f) := by
  unfold figN
  refine ⟨fun h => ?_, fun h => ?_⟩
  · subst h; rw [unhex_hx hf]; dsimp only; rw [if_pos (by omega)]
  · cases hq : unhex c with
    | none => rfl
    | some a =>
      have ha := unhex_some hq
      have : a ≠ f := fun e => h (by rw [ha.2, e])
      dsimp only
      by_cases h1 : a < f
      · rw [if_pos h1, if_pos (by omega)]
      · rw [if_neg h1, if_neg (by omega)]
theorem figN_zero (c : Nat) : figN c 0 = 16 := by
  unfold figN
  cases unhex c with
  | none => rfl
  | some a => dsimp only; rw [if_neg (by omega)]
theorem figN_16 {c : Nat} : (unhex c = none ∧ figN c 16 = 16) ∨ ∃ a, unhex c = some a ∧ figN c 16 = a ∧ a < 16 := by
  unfold figN
  cases hq : unhex c with
  | none => exact .inl ⟨rfl, rfl⟩
  | some a =>
    have ha := (unhex_some hq).1
    exact .inr ⟨a, rfl, by dsimp only; rw [if_pos ha], ha⟩
set_option maxHeartbeats 2000000 in
theorem unhexR0_fn (s : List Nat) (hs : Byt s) (hlen : s.length ≤ 1000000) : Fn Tryz.prog 28 [strD s] fun d => DLe d (unhexD s) := by
  refine fnOf [] Tryz.func28 rfl (by kernel_rfl) (Nat.le_of_ble_eq_true rfl) ?_
  have hsz : ((strB s).size : Int) = (s.length : Int) := by rw [strB_size]
  have hget : ∀ {k x : Nat}, s[k]? = some x → ∀ b, (strB s)[k]? = some b → b.toNat = x := fun hx b hb => by
    have := strB_get hs hb
    rw [hx] at this
    injection this with this
    exact this.symm
  conv => whnf
  refine ⟨Nat × List Nat, fun g => ⟨[(5, intD (2 * g.1 : Nat)), (4, .grow 0), (0, strD s)], [(0, .grow Nat 5 1 byN g.2)], 1, ([], 0)⟩,
    fun g => 2 * g.1 ≤ s.length ∧ g.2.length = g.1 ∧ unhexT (s.take (2 * g.1)) = some g.2, fun g => s.length - 2 * g.1, ⟨(0, []), [], [], ?_, Nat.zero_le _, rfl, unhexT_nil⟩, ?_⟩
  · repeat' (first | exact trivial | exact .inl (DLe.refl _) | exact .inl (DLe.nil _ _) | (refine .inr ⟨rfl, _, ?_, rfl⟩; rfl) | exact rfl | exact .inl rfl | exact .inr ⟨rfl, rfl, rfl, rfl⟩ | exact Nat.zero_le _ | constructor)
  rintro ⟨j, P⟩ ⟨hj, hP, hun⟩
  dsimp only at hj hP hun
  dsimp only
  have e1 := wrap_nx (n := 2 * j) (by omega)
  conv => whnf
  rw [e1]
  refine Fork.intro (fun h1 => ?_) (fun h1 => ?_)
  · have h1 := of_decide_eq_true h1
    have hlt : 2 * j + 1 < s.length := by omega
    obtain ⟨x, hx⟩ : ∃ x, s[2 * j]? = some x := ⟨_, List.getElem?_eq_getElem (by omega)⟩
    obtain ⟨y, hy⟩ : ∃ y, s[2 * j + 1]? = some y := ⟨_, List.getElem?_eq_getElem (by omega)⟩
    have gx := hget hx
    have gy := hget hy
    have x256 := hs.get hx
    have y256 := hs.get hy
    conv => whnf
    refine ⟨Nat, fun f => ⟨[(8, intD f), (7, intD (figN y f)), (6, intD (figN x f)), (5, intD (2 * j : Nat)), (4, .grow 0), (0, strD s)], [(0, .grow Nat 5 1 byN P)], 1, ([], 0)⟩,
      fun f => f ≤ 16, fun f => 16 - f, ⟨0, [], [], ?_, Nat.zero_le _⟩, ?_⟩
    · dsimp only
      rw [figN_zero, figN_zero]
      repeat' (first | exact trivial | exact .inl (DLe.refl _) | exact .inl (DLe.nil _ _) | (refine .inr ⟨rfl, _, ?_, rfl⟩; rfl) | exact rfl | exact .inl rfl | exact .inr ⟨rfl, rfl, rfl, rfl⟩ | exact Nat.zero_le _ | constructor)
    intro f hf
    replace hf : f ≤ 16 := hf
    have ef := wrap_nx (n := f) (by omega)
    conv => whnf
    refine Fork.intro (fun h2 => ?_) (fun h2 => ?_)
    · have h2 := of_decide_eq_true h2
      have hf16 : f < 16 := by omega
      have hfig := rfig_fn f hf16
      have efu : IntKind.u8.wrap (f : Int) = (f : Int) := u8_small (by omega)
      obtain ⟨sx1, sx2⟩ := figN_step (c := x) hf16
      obtain ⟨sy1, sy2⟩ := figN_step (c := y) hf16
      have hxb := (hx_lt hf16).1
      conv => whnf
      refine ⟨⟨by omega, by omega⟩, fun b hb => ?_⟩
      rw [gx b hb]
      clear hb
      conv => whnf
      rw [efu]
      refine CallVC.pure hfig rfl ?_
      rintro _ rfl
      conv => whnf
      refine Fork.intro (fun h3 => ?_) (fun h3 => ?_)
      · have h3 := of_decide_eq_true h3
        have sx := sx1 (by omega)
        conv => whnf
        rw [e1]
        refine ⟨⟨by omega, by omega⟩, fun b hb => ?_⟩
        rw [gy b hb]
        clear hb
        conv => whnf
        rw [efu]
        refine CallVC.pure hfig rfl ?_
        rintro _ rfl
        conv => whnf
        refine Fork.intro (fun h4 => ?_) (fun h4 => ?_)
        · have h4 := of_decide_eq_true h4
          have sy := sy1 (by omega)
          conv => whnf
          rw [ef]
          refine ⟨f + 1, [], [], ?_, by show f + 1 ≤ 16; omega, by show 16 - (f + 1) < 16 - f; omega⟩
          dsimp only
          rw [sx, sy]
          repeat' (first | exact trivial | exact .inl (DLe.refl _) | exact .inl (DLe.nil _ _) | (refine .inr ⟨rfl, _, ?_, rfl⟩; rfl) | exact rfl | exact .inl rfl | exact .inr ⟨rfl, rfl, rfl, rfl⟩ | exact Nat.zero_le _ | constructor)
        · have h4 := of_decide_eq_false h4
          have sy := sy2 (by omega)
          conv => whnf
          rw [ef]
          refine ⟨f + 1, [], [], ?_, by show f + 1 ≤ 16; omega, by show 16 - (f + 1) < 16 - f; omega⟩
          dsimp only
          rw [sx, sy]
          repeat' (first | exact trivial | exact .inl (DLe.refl _) | exact .inl (DLe.nil _ _) | (refine .inr ⟨rfl, _, ?_, rfl⟩; rfl) | exact rfl | exact .inl rfl | exact .inr ⟨rfl, rfl, rfl, rfl⟩ | exact Nat.zero_le _ | constructor)
      · have h3 := of_decide_eq_false h3
        have sx := sx2 (by omega)
        conv => whnf
        rw [e1]
        refine ⟨⟨by omega, by omega⟩, fun b hb => ?_⟩
        rw [gy b hb]
        clear hb
        conv => whnf
        rw [efu]
        refine CallVC.pure hfig rfl ?_
        rintro _ rfl
        conv => whnf
        refine Fork.intro (fun h4 => ?_) (fun h4 => ?_)
        · have h4 := of_decide_eq_true h4
          have sy := sy1 (by omega)
          conv => whnf
          rw [ef]
          refine ⟨f + 1, [], [], ?_, by show f + 1 ≤ 16; omega, by show 16 - (f + 1) < 16 - f; omega⟩
          dsimp only
          rw [sx, sy]
          repeat' (first | exact trivial | exact .inl (DLe.refl _) | exact .inl (DLe.nil _ _) | (refine .inr ⟨rfl, _, ?_, rfl⟩; rfl) | exact rfl | exact .inl rfl | exact .inr ⟨rfl, rfl, rfl, rfl⟩ | exact Nat.zero_le _ | constructor)
        · have h4 := of_decide_eq_false h4
          have sy := sy2 (by omega)
          conv => whnf
          rw [ef]
          refine ⟨f + 1, [], [], ?_, by show f + 1 ≤ 16; omega, by show 16 - (f + 1) < 16 - f; omega⟩
          dsimp only
          rw [sx, sy]
          repeat' (first | exact trivial | exact .inl (DLe.refl _) | exact .inl (DLe.nil _ _) | (refine .inr ⟨rfl, _, ?_, rfl⟩; rfl) | exact rfl | exact .inl rfl | exact .inr ⟨rfl, rfl, rfl, rfl⟩ | exact Nat.zero_le _ | constructor)
    · have h2 := of_decide_eq_false h2
      obtain rfl : f = 16 := by omega
      clear h2 ef hf
      have mx := List.mem_of_getElem? hx
      have my := List.mem_of_getElem? hy
      rcases figN_16 (c := x) with ⟨u1, u2⟩ | ⟨a, u1, u2, u3⟩
      · rw [u2, unhexD_no (unhexT_bad mx u1)]
        conv => whnf
        exact dle_pair (DLe.nil _ _)
      · rcases figN_16 (c := y) with ⟨v1, v2⟩ | ⟨b, v1, v2, v3⟩
        · rw [u2, v2, unhexD_no (unhexT_bad my v1)]
          conv => whnf
          refine Fork.intro (fun h3 => ?_) (fun h3 => ?_)
          · conv => whnf
            exact dle_pair (DLe.nil _ _)
          · conv => whnf
            exact dle_pair (DLe.nil _ _)
        · rw [u2, v2]
          have hnext : unhexT (s.take (2 * (j + 1))) = some (P ++ [a * 16 + b]) := by
            rw [show 2 * (j + 1) = 2 * j + 1 + 1 by omega, List.take_add_one, hy, List.take_add_one, hx, List.append_assoc]
            exact unhexT_snoc hun u1 v1
          have ew : IntKind.u8.wrap (IntKind.i64.wrap (IntKind.i64.wrap ((a : Int) * 16) + (b : Int))) = ((a * 16 + b : Nat) : Int) := by
            rw [IntWalk.i64_in (_ * _) (by omega), IntWalk.i64_in _ (by omega), u8_small (by omega)]; omega
          have e2 : IntKind.i64.wrap (((2 * j : Nat) : Int) + 2) = ((2 * (j + 1) : Nat) : Int) := by rw [IntWalk.i64_in _ (by omega)]; omega
          conv => whnf
          refine Fork.intro (fun h3 => absurd (of_decide_eq_true h3) (by omega)) (fun _ => ?_)
          conv => whnf
          refine Fork.intro (fun h3 => absurd (of_decide_eq_true h3) (by omega)) (fun _ => ?_)
          conv => whnf
          rw [ew]
          refine ⟨by decide, ?_⟩
          conv => whnf
          refine ⟨Nat, byN, P ++ [a * 16 + b], (by rw [List.map_append]; rfl), fun _ => rfl, by simp; omega, by simp; omega, rfl, ?_⟩
          conv => whnf
          rw [e2]
          refine ⟨(j + 1, P ++ [a * 16 + b]), [(0, 1)], [], ?_, ⟨by show 2 * (j + 1) ≤ _; omega, by simp [hP], hnext⟩, by show s.length - 2 * (j + 1) < s.length - 2 * j; omega⟩
          repeat' (first | exact trivial | exact .inl (DLe.refl _) | exact .inl (DLe.nil _ _) | (refine .inr ⟨rfl, _, ?_, rfl⟩; rfl) | exact rfl | exact .inl rfl | exact .inr ⟨rfl, rfl, rfl, rfl⟩ | exact Nat.zero_le _ | constructor)
  · have h1 := of_decide_eq_false h1
    have hmod : ((strB s).size : Int).tmod 2 = ((s.length % 2 : Nat) : Int) := by rw [hsz, Int.tmod_eq_emod_of_nonneg (by omega)]; omega
    conv => whnf
    refine ⟨by decide, ?_⟩
    conv => whnf
    rw [hmod]
    refine Fork.intro (fun h => ?_) (fun h => ?_)
    · have h : s.length % 2 = 1 := by have := of_decide_eq_true h; omega
      rw [unhexD_no (unhexT_odd h)]
      conv => whnf
      exact dle_pair (DLe.nil _ _)
    · have h : s.length % 2 = 0 := by have := of_decide_eq_false h; omega
      have hjj : 2 * j = s.length := by omega
      rw [hjj, List.take_length] at hun
      rw [unhexD_ok hun]
      conv => whnf
      exact DLe.refl _
theorem unhexR_fn (s : List Nat) (hs : Byt s) (hlen : s.length ≤ 1000000) : Fn Tryz.prog 28 [strD s] fun d => d = unhexD s := Fn.exact (unhexR0_fn s hs hlen)

/-! ### Same -/
theorem sameB_fn (a b : List Nat) (ha : a.length ≤ 1000000) (hb : b.length ≤ 1000000) : Fn Tryz.prog 38 [rowsN a, rowsN b] fun d => d = boolD (decide (a = b)) := by
  refine fnOf [] Tryz.func38 rfl (by kernel_rfl) (Nat.le_of_ble_eq_true rfl) ?_
  conv => whnf
  refine Fork.intro (fun h => ?_) (fun h => ?_)
  · have h : ¬ a.length = b.length := by
      have : ¬ ((a.length : Int) = (b.length : Int)) := by simpa using h
      omega
    rw [show decide (a = b) = false from decide_eq_false (fun e => h (by rw [e]))]
    conv => whnf
  · have h : a.length = b.length := by
      have : ((a.length : Int) = (b.length : Int)) := by simpa using h
      omega
    conv => whnf
    refine ⟨Nat, fun k => ⟨[(5, intD k), (1, rowsN b), (0, rowsN a)], [], 0, ([], 0)⟩, fun k => k ≤ a.length ∧ a.take k = b.take k, fun k => a.length - k, ⟨0, [], [], ?_, Nat.zero_le _, rfl⟩, ?_⟩
    · repeat' (first | exact trivial | exact .inl (DLe.refl _) | exact .inl (DLe.nil _ _) | (refine .inr ⟨rfl, _, ?_, rfl⟩; rfl) | exact rfl | exact .inl rfl | exact .inr ⟨rfl, rfl, rfl, rfl⟩ | exact Nat.zero_le _ | constructor)
    rintro k ⟨hk, he⟩
    have e0 := wrap_nx (n := k) (by omega)
    conv => whnf
    refine Fork.intro (fun h1 => ?_) (fun h1 => ?_)
    · have h1 := of_decide_eq_true h1
      conv => whnf
      refine ⟨rfl, ⟨by omega, by omega⟩, fun x hx => ?_⟩
      have hx : a[k]? = some x := hx
      conv => whnf
      refine ⟨rfl, ⟨by omega, by omega⟩, fun y hy => ?_⟩
      have hy : b[k]? = some y := hy
      conv => whnf
      refine Fork.intro (fun h2 => ?_) (fun h2 => ?_)
      · have h2 : x ≠ y := by
          have : ¬ ((x : Int) = (y : Int)) := by simpa using h2
          omega
        rw [show decide (a = b) = false from decide_eq_false (fun e => h2 (by subst e; exact Option.some.inj (hx.symm.trans hy)))]
        conv => whnf
      · have h2 : x = y := by
          have : ((x : Int) = (y : Int)) := by simpa using h2
          omega
        conv => whnf
        rw [e0]
        refine ⟨k + 1, [], [], ?_, ⟨by show k + 1 ≤ a.length; omega, by rw [List.take_add_one, List.take_add_one, hx, hy, he, h2]⟩, by show a.length - (k + 1) < a.length - k; omega⟩
        repeat' (first | exact trivial | exact .inl (DLe.refl _) | exact .inl (DLe.nil _ _) | (refine .inr ⟨rfl, _, ?_, rfl⟩; rfl) | exact rfl | exact .inl rfl | exact .inr ⟨rfl, rfl, rfl, rfl⟩ | exact Nat.zero_le _ | constructor)
    · have h1 := of_decide_eq_false h1
      obtain rfl : k = a.length := by omega
      rw [List.take_length, h, List.take_length] at he
      rw [show decide (a = b) = true from decide_eq_true he]
      conv => whnf

/-! ### Numbers as bytes -/
theorem dgN (n : Nat) (h : n < 4294967296) : IntKind.u8.wrap ((n : Int).tmod 256) = ((n % 256 : Nat) : Int) ∧ IntKind.u32.wrap ((n : Int).tdiv 256) = ((n / 256 : Nat) : Int) ∧ n / 256 < 4294967296 := by
  refine ⟨?_, ?_, by omega⟩
  · rw [Int.tmod_eq_emod_of_nonneg (by omega), u8_small (by omega)]; omega
  · rw [Int.tdiv_eq_ediv_of_nonneg (by omega), u32_small (by omega)]; omega
set_option maxHeartbeats 1000000 in
theorem rput4N_fn (n : Nat) (hn : n < 4294967296) : Fn Tryz.prog 53 [u32D n, intD 4] fun d => d = rowsN (be4 n) := by
  refine fnOf [] Tryz.func53 rfl (by kernel_rfl) (Nat.le_of_ble_eq_true rfl) ?_
  obtain ⟨a0, b0, d0⟩ := dgN n hn
  obtain ⟨a1, b1, d1⟩ := dgN (n / 256) d0
  obtain ⟨a2, b2, d2⟩ := dgN (n / 256 / 256) d1
  obtain ⟨a3, b3, _⟩ := dgN (n / 256 / 256 / 256) d2
  conv => whnf
  refine op_makeCap (l := 4) (c := 4) (β := Nat) (enc := byN) (zz := 0) ttH rfl rfl rfl rfl rfl (by decide) rfl (Nat.le_refl _) ⟨by decide, by decide⟩ rfl ?_
  conv => whnf
  refine ⟨Nat, fun k => ⟨[(6, intD k), (5, .grow 0), (1, intD 4), (0, u32D (match k with | 0 => n | 1 => n / 256 | 2 => n / 256 / 256 | 3 => n / 256 / 256 / 256 | _ => n / 256 / 256 / 256 / 256 : Nat))], [(0, .grow Nat 5 1 byN (match k with | 0 => [0, 0, 0, 0] | 1 => [0, 0, 0, n % 256] | 2 => [0, 0, n / 256 % 256, n % 256] | 3 => [0, n / 256 / 256 % 256, n / 256 % 256, n % 256] | _ => [n / 256 / 256 / 256 % 256, n / 256 / 256 % 256, n / 256 % 256, n % 256]))], 1, ([], 0)⟩, fun k => k ≤ 4, fun k => 4 - k, ⟨0, [], [], ?_, Nat.zero_le _⟩, ?_⟩
  · repeat' (first | exact trivial | exact .inl (DLe.refl _) | exact .inl (DLe.nil _ _) | (refine .inr ⟨rfl, _, ?_, rfl⟩; rfl) | exact rfl | exact .inl rfl | exact .inr ⟨rfl, rfl, rfl, rfl⟩ | exact Nat.zero_le _ | constructor)
  · intro k hk
    rcases (by have : k ≤ 4 := hk; omega : k = 0 ∨ k = 1 ∨ k = 2 ∨ k = 3 ∨ k = 4) with rfl | rfl | rfl | rfl | rfl
    · conv => whnf
      refine ⟨by decide, ?_⟩
      conv => whnf
      refine ⟨rfl, ⟨by decide, by show (3 : Int) < 4; decide⟩, ?_⟩
      conv => whnf
      refine ⟨rfl, by show 3 < 4; decide, fun x hx => ?_⟩
      conv => whnf
      refine ⟨rfl, n % 256, (by show byN _ = [u8D (IntKind.u8.wrap (((n : Nat) : Int).tmod 256))]; rw [a0]; rfl), ?_⟩
      conv => whnf
      refine ⟨by decide, ?_⟩
      conv => whnf
      simp only [b0]
      refine ⟨1, [], [], ?_, by decide, by decide⟩
      repeat' (first | exact trivial | exact .inl (DLe.refl _) | exact .inl (DLe.nil _ _) | (refine .inr ⟨rfl, _, ?_, rfl⟩; rfl) | exact rfl | exact .inl rfl | exact .inr ⟨rfl, rfl, rfl, rfl⟩ | exact Nat.zero_le _ | constructor)
    · conv => whnf
      refine ⟨by decide, ?_⟩
      conv => whnf
      refine ⟨rfl, ⟨by decide, by show (2 : Int) < 4; decide⟩, ?_⟩
      conv => whnf
      refine ⟨rfl, by show 2 < 4; decide, fun x hx => ?_⟩
      conv => whnf
      refine ⟨rfl, n / 256 % 256, (by show byN _ = [u8D (IntKind.u8.wrap (((n / 256 : Nat) : Int).tmod 256))]; rw [a1]; rfl), ?_⟩
      conv => whnf
      refine ⟨by decide, ?_⟩
      conv => whnf
      simp only [b1]
      refine ⟨2, [], [], ?_, by decide, by decide⟩
      repeat' (first | exact trivial | exact .inl (DLe.refl _) | exact .inl (DLe.nil _ _) | (refine .inr ⟨rfl, _, ?_, rfl⟩; rfl) | exact rfl | exact .inl rfl | exact .inr ⟨rfl, rfl, rfl, rfl⟩ | exact Nat.zero_le _ | constructor)
    · conv => whnf
      refine ⟨by decide, ?_⟩
      conv => whnf
      refine ⟨rfl, ⟨by decide, by show (1 : Int) < 4; decide⟩, ?_⟩
      conv => whnf
      refine ⟨rfl, by show 1 < 4; decide, fun x hx => ?_⟩
      conv => whnf
      refine ⟨rfl, n / 256 / 256 % 256, (by show byN _ = [u8D (IntKind.u8.wrap (((n / 256 / 256 : Nat) : Int).tmod 256))]; rw [a2]; rfl), ?_⟩
      conv => whnf
      refine ⟨by decide, ?_⟩
      conv => whnf
      simp only [b2]
      refine ⟨3, [], [], ?_, by decide, by decide⟩
      repeat' (first | exact trivial | exact .inl (DLe.refl _) | exact .inl (DLe.nil _ _) | (refine .inr ⟨rfl, _, ?_, rfl⟩; rfl) | exact rfl | exact .inl rfl | exact .inr ⟨rfl, rfl, rfl, rfl⟩ | exact Nat.zero_le _ | constructor)
    · conv => whnf
      refine ⟨by decide, ?_⟩
      conv => whnf
      refine ⟨rfl, ⟨by decide, by show (0 : Int) < 4; decide⟩, ?_⟩
      conv => whnf
      refine ⟨rfl, by show 0 < 4; decide, fun x hx => ?_⟩
      conv => whnf
      refine ⟨rfl, n / 256 / 256 / 256 % 256, (by show byN _ = [u8D (IntKind.u8.wrap (((n / 256 / 256 / 256 : Nat) : Int).tmod 256))]; rw [a3]; rfl), ?_⟩
      conv => whnf
      refine ⟨by decide, ?_⟩
      conv => whnf
      simp only [b3]
      refine ⟨4, [], [], ?_, by decide, by decide⟩
      repeat' (first | exact trivial | exact .inl (DLe.refl _) | exact .inl (DLe.nil _ _) | (refine .inr ⟨rfl, _, ?_, rfl⟩; rfl) | exact rfl | exact .inl rfl | exact .inr ⟨rfl, rfl, rfl, rfl⟩ | exact Nat.zero_le _ | constructor)
    · conv => whnf
      show rowsN [n / 256 / 256 / 256 % 256, n / 256 / 256 % 256, n / 256 % 256, n % 256] = rowsN (be4 n)
      unfold be4
      rw [show n / 256 / 256 / 256 = n / 16777216 by omega, show n / 256 / 256 = n / 65536 by omega]
theorem raddN_fn (x y : List Nat) (hx : x.length ≤ 100000) (hy : y.length ≤ 100000) : Fn Tryz.prog 52 [rowsN x, rowsN y] fun d => d = rowsN (x ++ y) := by
  refine fnOf [] Tryz.func52 rfl (by kernel_rfl) (Nat.le_of_ble_eq_true rfl) ?_
  have hl : (x ++ y).length ≤ 200000 := by rw [List.length_append]; omega
  conv => whnf
  refine ⟨Nat, byN, x, rfl, fun _ => rfl, by omega, (by show _ * 1 ≤ _; omega), rfl, ?_⟩
  conv => whnf
  refine ⟨Nat, byN, x ++ y, List.map_append, fun _ => rfl, by omega, (by show _ * 1 ≤ _; omega), rfl, ?_⟩
  conv => whnf
theorem rlong_fn (n : Nat) (hn : n < 18446744073709551616) : Fn Tryz.prog 37 [u64N n] fun d => d = rowsN (be8 n) := by
  refine fnOf [] Tryz.func37 rfl (by kernel_rfl) (Nat.le_of_ble_eq_true rfl) ?_
  have h1 := rput4N_fn (n / 4294967296) (by omega)
  have h2 := rput4N_fn (n % 4294967296) (Nat.mod_lt _ (by decide))
  have h3 := raddN_fn (be4 (n / 4294967296)) (be4 (n % 4294967296)) (by show 4 ≤ _; decide) (by show 4 ≤ _; decide)
  have w64 : ∀ m : Int, IntKind.u64.wrap m = m % 18446744073709551616 := fun m => by rw [IntKind.wrap]; rfl
  have e1 : IntKind.u32.wrap (IntKind.u64.wrap ((n : Int).tdiv 4294967296)) = ((n / 4294967296 : Nat) : Int) := by
    rw [Int.tdiv_eq_ediv_of_nonneg (by omega), w64, u32_wrap]; omega
  have e2 : IntKind.u32.wrap ((n : Int).tmod 4294967296) = ((n % 4294967296 : Nat) : Int) := by
    rw [Int.tmod_eq_emod_of_nonneg (by omega), u32_wrap]; omega
  conv => whnf
  refine ⟨by decide, ?_⟩
  conv => whnf
  rw [e1]
  refine CallVC.pure h1 rfl ?_
  rintro _ rfl
  conv => whnf
  refine ⟨by decide, ?_⟩
  conv => whnf
  rw [e2]
  refine CallVC.pure h2 rfl ?_
  rintro _ rfl
  conv => whnf
  refine CallVC.pure h3 rfl ?_
  rintro _ rfl
  conv => whnf
  rfl
end Go.Proofs.YtbjhkhhbdlnfbaaGreatDoor.V
namespace Go.Proofs.YtbjhkhhbdlnfbaaGreatDoor.V
open Go.RowKit
attribute [local irreducible] Fn FnN OpVC DLe

theorem mayS_iff (kind nic num : Int) (fr : List Nat) (lo hi : Nat) : MayS ⟨kind, nic, num, fr, lo, hi⟩ ↔ (1 ≤ kind ∧ kind ≤ 5) ∧ (0 ≤ nic ∧ nic ≤ 1) ∧ (0 ≤ num ∧ num ≤ 4095) ∧ fr.length ≤ 1600 ∧
    (kind = 1 ∨ fr.length = 0) ∧ (kind ≤ 3 ∨ nic = 0) ∧ (kind = 5 ∨ (lo = 0 ∧ hi = 0)) ∧ ((kind ≠ 1 ∧ kind ≠ 5) ∨ num = 0) := by
  unfold MayS; dsimp only
  constructor
  · rintro ⟨h1, h2, h3, h4, h5, h6, h7, h8⟩
    refine ⟨h1, h2, h3, h4, ?_, ?_, ?_, ?_⟩
    · by_cases k : kind = 1
      · exact .inl k
      · exact .inr (h5 k)
    · by_cases k : 3 < kind
      · exact .inr (h6 k)
      · exact .inl (by omega)
    · by_cases k : kind = 5
      · exact .inl k
      · exact .inr (h7 k)
    · by_cases k : kind = 1 ∨ kind = 5
      · exact .inr (h8 k)
      · exact .inl (by omega)
  · rintro ⟨h1, h2, h3, h4, h5, h6, h7, h8⟩
    exact ⟨h1, h2, h3, h4, fun _ => by omega, fun _ => by omega, fun _ => by omega, fun _ => by omega⟩
set_option maxRecDepth 100000 in
set_option maxHeartbeats 8000000 in
theorem mayR_fn (a : Stp) : Fn Tryz.prog 12 [.agg (stD a)] fun d => d = boolD (maySB a) := by
  refine fnOf [] Tryz.func12 rfl (by kernel_rfl) (Nat.le_of_ble_eq_true rfl) ?_
  obtain ⟨kind, nic, num, frame, lo, hi⟩ := a
  have fin : ∀ b : Bool, (b = true ↔ MayS ⟨kind, nic, num, frame, lo, hi⟩) → D.v (.bool b) = boolD (maySB ⟨kind, nic, num, frame, lo, hi⟩) := fun b h => congrArg boolD (maySB_of h)
  have key := mayS_iff kind nic num frame lo hi
  generalize hM : MayS ⟨kind, nic, num, frame, lo, hi⟩ = M at fin key
  clear hM
  generalize boolD (maySB ⟨kind, nic, num, frame, lo, hi⟩) = goal at *
  conv => whnf
  repeat' (first
    | (refine fin _ ?_; rw [key]; simp only [decide_eq_true_eq, Bool.not_eq_true', decide_eq_false_iff_not, reduceCtorEq, true_iff, false_iff, Bool.false_eq_true]; omega)
    | (refine ⟨eqKeyOk, rfl, ?_⟩; (conv => whnf))
    | (refine Fork.intro (fun h => ?_) (fun h => ?_) <;> (try simp only [List.map_cons, List.map_nil, eqD_key, decide_eq_true_eq, Bool.not_eq_true', Bool.not_eq_false', decide_eq_false_iff_not] at h) <;> (conv => whnf)))

/-! ### Lines -/
theorem catL {w x : List Nat} {b : ByteArray} (h : b = strB w) : b ++ strB x = strB (w ++ x) := by rw [h, strB_append]
theorem catR {w x : List Nat} {b : ByteArray} (h : b = strB w) : strB x ++ b = strB (x ++ w) := by rw [h, strB_append]
theorem cat_le {a b : List Nat} {x y : ByteArray} (hx : x = strB a) (hy : y = strB b) (h : a.length + b.length ≤ 1000000000) : ((x.size + y.size : Nat) : Int) ≤ 9223372036854775807 := by
  subst hx hy; exact str_le h
set_option maxHeartbeats 4000000 in
theorem lineR_fn (a : Stp) (ok : a.ok) : Fn Tryz.prog 10 [.agg (stD a)] fun d => d = strD (lineS a) := by
  refine fnOf [(15, [0, 1, 2, 7, 8, 9, 3, 4, 5, 6, 10, 11, 12, 13])] Tryz.func10 rfl (by kernel_rfl) (Nat.le_of_ble_eq_true rfl) ?_
  have hm := mayR_fn a
  cases hmb : maySB a with
  | false =>
    rw [hmb] at hm
    have e : lineS a = [] := by unfold lineS; rw [hmb]
    rw [e]
    conv => whnf
    refine CallVC.pure hm rfl ?_
    rintro _ rfl
    conv => whnf
    rfl
  | true =>
  rw [hmb] at hm
  have may : MayS a := of_decide_eq_true hmb
  rw [lineS_may may]
  obtain ⟨kind, nic, num, frame, lo, hi⟩ := a
  have kf := ok.frame; have kl := ok.lo; have kh := ok.hi
  have hop := may.1
  have m2 := may.2.1; have m3 := may.2.2.1; have m4 := may.2.2.2.1
  dsimp only at *
  have hnic := digitsRI_fn nic (by omega)
  have hnum := digitsRI_fn num (by omega)
  have hhex := hexR_fn frame kf (by omega)
  have hlo := rlong_fn lo kl
  have hhi := rlong_fn hi kh
  have hlo2 := hexR_fn (be8 lo) (be8_byt lo) (by show 4 + 4 ≤ _; decide)
  have hhi2 := hexR_fn (be8 hi) (be8_byt hi) (by show 4 + 4 ≤ _; decide)
  have ln : (dgI nic).length ≤ 10 := dgs_len 9 nic.toNat (by omega)
  have lm : (dgI num).length ≤ 10 := dgs_len 9 num.toNat (by omega)
  have lf := hexT_len frame
  have ll := halfT_len lo; have lh := halfT_len hi
  have en : IntKind.u32.wrap nic = nic := u32_small (by omega)
  have em : IntKind.u32.wrap num = num := u32_small (by omega)
  clear hmb may
  rcases k5_cases hop with rfl | rfl | rfl | rfl | rfl
  · by_cases hf : frame.length = 0
    · obtain rfl : frame = [] := List.eq_nil_of_length_eq_zero hf
      have hres : stN ⟨1, nic, num, [], lo, hi⟩ = ([102, 114, 97, 109, 101, 32] ++ dgI nic) ++ [32, 45] := by
        show wFrame ++ 32 :: (dgI nic ++ 32 :: [45]) = _
        simp [wFrame]
      rw [hres]
      generalize dgI nic = di at *
      conv => whnf
      refine CallVC.pure hm rfl ?_
      rintro _ rfl
      conv => whnf
      rw [en]
      refine CallVC.pure hnic rfl ?_
      rintro _ rfl
      conv => whnf
      rw [em]
      refine CallVC.pure hnum rfl ?_
      rintro _ rfl
      conv => whnf
      refine ⟨cat_le (a := [102, 114, 97, 109, 101, 32]) (b := di) rfl rfl (by simp; omega), ?_⟩
      rw [catL (w := [102, 114, 97, 109, 101, 32]) (b := ⟨#[102, 114, 97, 109, 101, 32]⟩) rfl]
      conv => whnf
      refine ⟨cat_le (a := ([102, 114, 97, 109, 101, 32] ++ di)) (b := [32, 45]) rfl rfl (by simp; omega), ?_⟩
      rw [catR (w := [32, 45]) (b := ⟨#[32, 45]⟩) rfl]
      conv => whnf
    · have hfr : frame ≠ [] := fun e => hf (by rw [e]; rfl)
      have hres : stN ⟨1, nic, num, frame, lo, hi⟩ = (([102, 114, 97, 109, 101, 32] ++ dgI nic) ++ [32]) ++ hexT frame := by
        show wFrame ++ 32 :: (dgI nic ++ 32 :: frameT frame) = _
        rw [frameT_cons hfr]
        simp [wFrame]
      rw [hres]
      generalize dgI nic = di at *
      generalize hexT frame = hf2 at *
      conv => whnf
      refine CallVC.pure hm rfl ?_
      rintro _ rfl
      conv => whnf
      rw [en]
      refine CallVC.pure hnic rfl ?_
      rintro _ rfl
      conv => whnf
      rw [em]
      refine CallVC.pure hnum rfl ?_
      rintro _ rfl
      conv => whnf
      refine Fork.intro (fun g => absurd (show frame.length = 0 by have := of_decide_eq_true g; dsimp only at this; omega) hf) (fun _ => ?_)
      conv => whnf
      refine ⟨cat_le (a := [102, 114, 97, 109, 101, 32]) (b := di) rfl rfl (by simp; omega), ?_⟩
      rw [catL (w := [102, 114, 97, 109, 101, 32]) (b := ⟨#[102, 114, 97, 109, 101, 32]⟩) rfl]
      conv => whnf
      refine ⟨cat_le (a := ([102, 114, 97, 109, 101, 32] ++ di)) (b := [32]) rfl rfl (by simp; omega), ?_⟩
      rw [catR (w := [32]) (b := ⟨#[32]⟩) rfl]
      conv => whnf
      refine CallVC.pure hhex rfl ?_
      rintro _ rfl
      conv => whnf
      refine ⟨cat_le (a := (([102, 114, 97, 109, 101, 32] ++ di) ++ [32])) (b := hf2) rfl rfl (by simp; omega), ?_⟩
      rw [strB_append]
      conv => whnf
  · have hres : stN ⟨2, nic, num, frame, lo, hi⟩ = (([112, 111, 108, 108, 32] ++ dgI nic) ++ [32]) ++ dgI num := by
      show wPoll ++ 32 :: (dgI nic ++ 32 :: dgI num) = _
      simp [wPoll]
    rw [hres]
    generalize dgI nic = di at *
    generalize dgI num = dn at *
    conv => whnf
    refine CallVC.pure hm rfl ?_
    rintro _ rfl
    conv => whnf
    rw [en]
    refine CallVC.pure hnic rfl ?_
    rintro _ rfl
    conv => whnf
    rw [em]
    refine CallVC.pure hnum rfl ?_
    rintro _ rfl
    conv => whnf
    refine ⟨cat_le (a := [112, 111, 108, 108, 32]) (b := di) rfl rfl (by simp; omega), ?_⟩
    rw [catL (w := [112, 111, 108, 108, 32]) (b := ⟨#[112, 111, 108, 108, 32]⟩) rfl]
    conv => whnf
    refine ⟨cat_le (a := ([112, 111, 108, 108, 32] ++ di)) (b := [32]) rfl rfl (by simp; omega), ?_⟩
    rw [catR (w := [32]) (b := ⟨#[32]⟩) rfl]
    conv => whnf
    refine ⟨cat_le (a := (([112, 111, 108, 108, 32] ++ di) ++ [32])) (b := dn) rfl rfl (by simp; omega), ?_⟩
    rw [strB_append]
    conv => whnf
  · have hres : stN ⟨3, nic, num, frame, lo, hi⟩ = (([100, 111, 110, 101, 32] ++ dgI nic) ++ [32]) ++ dgI num := by
      show wDone ++ 32 :: (dgI nic ++ 32 :: dgI num) = _
      simp [wDone]
    rw [hres]
    generalize dgI nic = di at *
    generalize dgI num = dn at *
    conv => whnf
    refine CallVC.pure hm rfl ?_
    rintro _ rfl
    conv => whnf
    rw [en]
    refine CallVC.pure hnic rfl ?_
    rintro _ rfl
    conv => whnf
    rw [em]
    refine CallVC.pure hnum rfl ?_
    rintro _ rfl
    conv => whnf
    refine ⟨cat_le (a := [100, 111, 110, 101, 32]) (b := di) rfl rfl (by simp; omega), ?_⟩
    rw [catL (w := [100, 111, 110, 101, 32]) (b := ⟨#[100, 111, 110, 101, 32]⟩) rfl]
    conv => whnf
    refine ⟨cat_le (a := ([100, 111, 110, 101, 32] ++ di)) (b := [32]) rfl rfl (by simp; omega), ?_⟩
    rw [catR (w := [32]) (b := ⟨#[32]⟩) rfl]
    conv => whnf
    refine ⟨cat_le (a := (([100, 111, 110, 101, 32] ++ di) ++ [32])) (b := dn) rfl rfl (by simp; omega), ?_⟩
    rw [strB_append]
    conv => whnf
  · have hres : stN ⟨4, nic, num, frame, lo, hi⟩ = [116, 105, 99, 107, 32] ++ dgI num := by
      show wTick ++ 32 :: dgI num = _
      simp [wTick]
    rw [hres]
    generalize dgI nic = di at *
    generalize dgI num = dn at *
    conv => whnf
    refine CallVC.pure hm rfl ?_
    rintro _ rfl
    conv => whnf
    rw [en]
    refine CallVC.pure hnic rfl ?_
    rintro _ rfl
    conv => whnf
    rw [em]
    refine CallVC.pure hnum rfl ?_
    rintro _ rfl
    conv => whnf
    refine ⟨cat_le (a := [116, 105, 99, 107, 32]) (b := dn) rfl rfl (by simp; omega), ?_⟩
    rw [catL (w := [116, 105, 99, 107, 32]) (b := ⟨#[116, 105, 99, 107, 32]⟩) rfl]
    conv => whnf
  · have hres : stN ⟨5, nic, num, frame, lo, hi⟩ = (([115, 101, 99, 114, 101, 116, 32] ++ halfT lo) ++ [32]) ++ halfT hi := by
      show wSecret ++ 32 :: (halfT lo ++ 32 :: halfT hi) = _
      simp [wSecret]
    rw [hres]
    unfold halfT at *
    generalize dgI nic = di at *
    generalize dgI num = dn at *
    generalize be8 lo = bl at *
    generalize be8 hi = bh at *
    generalize hexT bl = tl at *
    generalize hexT bh = th at *
    conv => whnf
    refine CallVC.pure hm rfl ?_
    rintro _ rfl
    conv => whnf
    rw [en]
    refine CallVC.pure hnic rfl ?_
    rintro _ rfl
    conv => whnf
    rw [em]
    refine CallVC.pure hnum rfl ?_
    rintro _ rfl
    conv => whnf
    refine CallVC.pure hlo rfl ?_
    rintro _ rfl
    conv => whnf
    refine CallVC.pure hlo2 rfl ?_
    rintro _ rfl
    conv => whnf
    refine ⟨cat_le (a := [115, 101, 99, 114, 101, 116, 32]) (b := tl) rfl rfl (by simp; omega), ?_⟩
    rw [catL (w := [115, 101, 99, 114, 101, 116, 32]) (b := ⟨#[115, 101, 99, 114, 101, 116, 32]⟩) rfl]
    conv => whnf
    refine ⟨cat_le (a := ([115, 101, 99, 114, 101, 116, 32] ++ tl)) (b := [32]) rfl rfl (by simp; omega), ?_⟩
    rw [catR (w := [32]) (b := ⟨#[32]⟩) rfl]
    conv => whnf
    refine CallVC.pure hhi rfl ?_
    rintro _ rfl
    conv => whnf
    refine CallVC.pure hhi2 rfl ?_
    rintro _ rfl
    conv => whnf
    refine ⟨cat_le (a := (([115, 101, 99, 114, 101, 116, 32] ++ tl) ++ [32])) (b := th) rfl rfl (by simp; omega), ?_⟩
    rw [strB_append]
    conv => whnf

/-! ### Steps compared -/
instance : DecidableEq Stp := fun a b => by
  obtain ⟨a1, a2, a3, a4, a5, a6⟩ := a
  obtain ⟨b1, b2, b3, b4, b5, b6⟩ := b
  exact decidable_of_iff (a1 = b1 ∧ a2 = b2 ∧ a3 = b3 ∧ a4 = b4 ∧ a5 = b5 ∧ a6 = b6) (by rw [Stp.mk.injEq])
theorem eqD_key2 (lo hi lo2 hi2 : Nat) : eqD [u64N lo, u64N hi] [u64N lo2, u64N hi2] = decide (lo = lo2 ∧ hi = hi2) := by
  simp only [eqD, Bool.and_true]
  rw [show decide (((lo : Nat) : Int) = (lo2 : Int)) = decide (lo = lo2) from decide_eq_decide.2 (by omega), show decide (((hi : Nat) : Int) = (hi2 : Int)) = decide (hi = hi2) from decide_eq_decide.2 (by omega)]
  by_cases h : lo = lo2 <;> by_cases k : hi = hi2 <;> simp [h, k]
set_option maxHeartbeats 2000000 in
theorem one_fn (a b : Stp) (ha : a.frame.length ≤ 1000000) (hb : b.frame.length ≤ 1000000) : Fn Tryz.prog 11 [.agg (stD a), .agg (stD b)] fun d => d = boolD (decide (a = b)) := by
  refine fnOf [] Tryz.func11 rfl (by kernel_rfl) (Nat.le_of_ble_eq_true rfl) ?_
  have hs := sameB_fn a.frame b.frame ha hb
  obtain ⟨k1, n1, m1, f1, l1, i1⟩ := a
  obtain ⟨k2, n2, m2, f2, l2, i2⟩ := b
  dsimp only at *
  have fin : ∀ x : Bool, (x = true ↔ (k1 = k2 ∧ n1 = n2 ∧ m1 = m2 ∧ f1 = f2 ∧ l1 = l2 ∧ i1 = i2)) → D.v (.bool x) = boolD (decide (Stp.mk k1 n1 m1 f1 l1 i1 = ⟨k2, n2, m2, f2, l2, i2⟩)) := fun x h => by
    refine congrArg boolD ?_
    by_cases g : k1 = k2 ∧ n1 = n2 ∧ m1 = m2 ∧ f1 = f2 ∧ l1 = l2 ∧ i1 = i2
    · rw [decide_eq_true (by rw [Stp.mk.injEq]; exact g), h.2 g]
    · rw [decide_eq_false (by rw [Stp.mk.injEq]; exact g), Bool.eq_false_iff]; exact fun e => g (h.1 e)
  generalize boolD (decide (Stp.mk k1 n1 m1 f1 l1 i1 = ⟨k2, n2, m2, f2, l2, i2⟩)) = goal at *
  conv => whnf
  refine Fork.intro (fun h1 => ?_) (fun h1 => ?_)
  rotate_left
  · have h1 := of_decide_eq_false h1
    conv => whnf
    exact fin _ ⟨fun h => (by cases h), fun h => absurd h.1 h1⟩
  have h1 := of_decide_eq_true h1
  conv => whnf
  refine Fork.intro (fun h2 => ?_) (fun h2 => ?_)
  rotate_left
  · have h2 := of_decide_eq_false h2
    conv => whnf
    exact fin _ ⟨fun h => (by cases h), fun h => absurd h.2.1 h2⟩
  have h2 := of_decide_eq_true h2
  conv => whnf
  refine Fork.intro (fun h3 => ?_) (fun h3 => ?_)
  rotate_left
  · have h3 := of_decide_eq_false h3
    conv => whnf
    exact fin _ ⟨fun h => (by cases h), fun h => absurd h.2.2.1 h3⟩
  have h3 := of_decide_eq_true h3
  conv => whnf
  refine ⟨eqKeyOk, rfl, ?_⟩
  conv => whnf
  refine Fork.intro (fun h4 => ?_) (fun h4 => ?_)
  rotate_left
  · rw [eqD_key2] at h4
    have h4 := of_decide_eq_false h4
    conv => whnf
    exact fin _ ⟨fun h => (by cases h), fun h => absurd h.2.2.2.2 h4⟩
  rw [eqD_key2] at h4
  have h4 := of_decide_eq_true h4
  conv => whnf
  refine CallVC.pure hs rfl ?_
  rintro _ rfl
  conv => whnf
  exact fin _ ⟨fun h => ⟨h1, h2, h3, of_decide_eq_true h, h4⟩, fun h => decide_eq_true h.2.2.2.1⟩
end Go.Proofs.YtbjhkhhbdlnfbaaGreatDoor.V
namespace Go.Proofs.YtbjhkhhbdlnfbaaGreatDoor.V
open Go.RowKit
attribute [local irreducible] Fn FnN OpVC DLe

set_option maxHeartbeats 1000000 in
theorem value_fn (l : List Nat) (hl : Byt l) (hlen : l.length ≤ 1000000) : Fn Tryz.prog 29 [strD l] fun d => d = intD (valQ l) := by
  refine fnOf [] Tryz.func29 rfl (by kernel_rfl) (Nat.le_of_ble_eq_true rfl) ?_
  have hsz : ((strB l).size : Int) = (l.length : Int) := by rw [strB_size]
  conv => whnf
  refine ⟨Nat × Nat, fun g => ⟨[(4, intD g.1), (3, intD g.2), (0, strD l)], [], 0, ([], 0)⟩,
    fun g => g.1 ≤ l.length ∧ g.2 ≤ 999999 ∧ valQ l = numM 99999 99999 (l.drop g.1) g.2, fun g => l.length - g.1, ⟨(0, 0), [], [], ?_, Nat.zero_le _, Nat.zero_le _, rfl⟩, ?_⟩
  · repeat' (first | exact trivial | exact .inl (DLe.refl _) | exact .inl (DLe.nil _ _) | (refine .inr ⟨rfl, _, ?_, rfl⟩; rfl) | exact rfl | exact .inl rfl | exact .inr ⟨rfl, rfl, rfl, rfl⟩ | exact Nat.zero_le _ | constructor)
  · rintro ⟨k, n⟩ ⟨hk, hn, hs⟩
    dsimp only at hk hn hs
    dsimp only
    conv => whnf
    refine Fork.intro (fun h1 => ?_) (fun h1 => ?_)
    · have h1 := of_decide_eq_true h1
      have hlt : k < l.length := by omega
      obtain ⟨x, hx⟩ : ∃ x, l[k]? = some x := ⟨_, List.getElem?_eq_getElem hlt⟩
      have hx256 := hl.get hx
      have hnx := numM_next (m := 99999) (bad := 99999) hx hs
      replace hnx : valQ l = _ := hnx
      have hget : ∀ b, (strB l)[k]? = some b → b.toNat = x := fun b hb => by
        have := strB_get hl hb
        rw [hx] at this
        injection this with this
        exact this.symm
      have e0 : IntKind.i64.wrap ((k : Int) + 1) = ((k + 1 : Nat) : Int) := wrap_nx (by omega)
      have g1 := isDig x
      conv => whnf
      refine ⟨⟨by omega, by omega⟩, fun b hb => ?_⟩
      rw [hget b (by simpa using hb)]
      clear hb
      conv => whnf
      refine Fork.intro (fun g => ?_) (fun g => ?_)
      · have g := of_decide_eq_true g
        rw [show isDig x = false by unfold isDig; rw [decide_eq_false (show ¬ 48 ≤ x by omega)]; rfl] at hnx
        rw [hnx]
        conv => whnf
        rfl
      · have g := of_decide_eq_false g
        conv => whnf
        refine ⟨⟨by omega, by omega⟩, fun b hb => ?_⟩
        rw [hget b (by simpa using hb)]
        clear hb
        conv => whnf
        refine Fork.intro (fun g2 => ?_) (fun g2 => ?_)
        · have g2 := of_decide_eq_true g2
          rw [show isDig x = false by unfold isDig; rw [decide_eq_false (show ¬ x ≤ 57 by omega)]; simp] at hnx
          rw [hnx]
          conv => whnf
          rfl
        · have g2 := of_decide_eq_false g2
          rw [show isDig x = true by unfold isDig; rw [decide_eq_true (show 48 ≤ x by omega), decide_eq_true (show x ≤ 57 by omega)]; rfl] at hnx
          conv => whnf
          refine Fork.intro (fun g3 => ?_) (fun g3 => ?_)
          · have g3 := of_decide_eq_true g3
            rw [decide_eq_true (show 99999 < n by omega)] at hnx
            have hnx : valQ l = 99999 := hnx
            rw [hnx]
            conv => whnf
          · have g3 := of_decide_eq_false g3
            rw [decide_eq_false (show ¬ 99999 < n by omega)] at hnx
            conv => whnf
            refine ⟨⟨by omega, by omega⟩, fun b hb => ?_⟩
            rw [hget b (by simpa using hb)]
            clear hb
            conv => whnf
            have e : IntKind.i64.wrap (IntKind.i64.wrap ((n : Int) * 10) + IntKind.i64.wrap (IntKind.u8.wrap ((x : Int) - 48))) = ((n * 10 + (x - 48) : Nat) : Int) := by
              rw [u8_small (n := (x : Int) - 48) (by omega), IntWalk.i64_in (_ - _) (by omega), IntWalk.i64_in (_ * _) (by omega), IntWalk.i64_in _ (by omega)]; omega
            rw [e, e0]
            refine ⟨(k + 1, n * 10 + (x - 48)), [], [], ?_, ⟨hlt, by show n * 10 + (x - 48) ≤ 999999; omega, hnx⟩, by show l.length - (k + 1) < l.length - k; omega⟩
            repeat' (first | exact trivial | exact .inl (DLe.refl _) | exact .inl (DLe.nil _ _) | (refine .inr ⟨rfl, _, ?_, rfl⟩; rfl) | exact rfl | exact .inl rfl | exact .inr ⟨rfl, rfl, rfl, rfl⟩ | exact Nat.zero_le _ | constructor)
    · have h1 := of_decide_eq_false h1
      obtain rfl : k = l.length := by omega
      rw [hs, List.drop_length, numM]
      conv => whnf
/-! ### Words -/
theorem drop_split {l : List Nat} {f i x : Nat} (h : f ≤ i) (hx : l[i]? = some x) : l.drop f = (l.take i).drop f ++ x :: l.drop (i + 1) := by
  have hi := (List.getElem?_eq_some_iff.1 hx).1
  have e : l = l.take i ++ x :: l.drop (i + 1) := take_drop_at hx
  conv => lhs; rw [e]
  rw [List.drop_append_of_le_length (by rw [List.length_take]; omega)]
def WdAt (p : Nat → Bool) (l : List Nat) (g : Nat × Nat × List (List Nat)) : Prop :=
  g.2.2.length ≤ g.1 ∧ ((g.1 ≤ l.length ∧ g.2.1 ≤ g.1 ∧ (∀ c, c ∈ (l.take g.1).drop g.2.1 → p c = false) ∧ splB p l = g.2.2 ++ splB p (l.drop g.2.1)) ∨ (g.1 = l.length + 1 ∧ g.2.2 = splB p l))
theorem WdAt.last {p : Nat → Bool} {l : List Nat} {f : Nat} {out : List (List Nat)} (h : WdAt p l (l.length, f, out)) : f ≤ l.length ∧ WdAt p l (l.length + 1, l.length + 1, out ++ [(l.take l.length).drop f]) := by
  obtain ⟨h0, h | h⟩ := h
  · obtain ⟨h1, h2, h3, h4⟩ := h
    dsimp only at *
    refine ⟨h2, by show (out ++ _).length ≤ _; simp; omega, .inr ⟨rfl, ?_⟩⟩
    show out ++ [(l.take l.length).drop f] = _
    rw [List.take_length] at h3 ⊢
    rw [h4, splB_one h3]
  · dsimp only at h; omega
theorem WdAt.sep {p : Nat → Bool} {l : List Nat} {i f x : Nat} {out : List (List Nat)} (h : WdAt p l (i, f, out)) (hx : l[i]? = some x) (hp : p x = true) : f ≤ i ∧ WdAt p l (i + 1, i + 1, out ++ [(l.take i).drop f]) := by
  have hi := (List.getElem?_eq_some_iff.1 hx).1
  obtain ⟨h0, h | h⟩ := h
  · obtain ⟨h1, h2, h3, h4⟩ := h
    dsimp only at *
    refine ⟨h2, by show (out ++ _).length ≤ _; simp; omega, .inl ⟨hi, Nat.le_refl _, fun c hc => ?_, ?_⟩⟩
    · replace hc : c ∈ (l.take (i + 1)).drop (i + 1) := hc
      rw [List.drop_eq_nil_of_le (by rw [List.length_take]; omega)] at hc; cases hc
    · show splB p l = (out ++ [(l.take i).drop f]) ++ splB p (l.drop (i + 1))
      rw [h4, drop_split h2 hx, splB_app h3 hp, List.append_assoc]; rfl
  · dsimp only at h; omega
theorem WdAt.go {p : Nat → Bool} {l : List Nat} {i f x : Nat} {out : List (List Nat)} (h : WdAt p l (i, f, out)) (hx : l[i]? = some x) (hp : p x = false) : WdAt p l (i + 1, f, out) := by
  have hi := (List.getElem?_eq_some_iff.1 hx).1
  obtain ⟨h0, h | h⟩ := h
  · obtain ⟨h1, h2, h3, h4⟩ := h
    dsimp only at *
    refine ⟨by show out.length ≤ _; omega, .inl ⟨hi, by show f ≤ i + 1; omega, fun c hc => ?_, h4⟩⟩
    replace hc : c ∈ (l.take (i + 1)).drop f := hc
    rw [List.take_add_one, hx, List.drop_append_of_le_length (by rw [List.length_take]; omega)] at hc
    rcases List.mem_append.1 hc with hc | hc
    · exact h3 c hc
    · have : c = x := by simpa using hc
      rw [this]; exact hp
  · dsimp only at h; omega

set_option maxHeartbeats 1000000 in
theorem words_fn (l : List Nat) (hl : Byt l) (hlen : l.length ≤ 1000000) : Fn Tryz.prog 27 [strD l] fun d => d = rowsT (splB (eqC 32) l) := by
  refine fnOf [] Tryz.func27 rfl (by kernel_rfl) (Nat.le_of_ble_eq_true rfl) ?_
  have hsz : ((strB l).size : Int) = (l.length : Int) := by rw [strB_size]
  conv => whnf
  refine ⟨Nat × Nat × List (List Nat), fun g => ⟨[(5, intD g.1), (4, intD g.2.1), (3, .grow 0), (0, strD l)], [(0, .grow (List Nat) 9 1 strE g.2.2)], 1, ([], 0)⟩,
    WdAt (eqC 32) l, fun g => l.length + 1 - g.1, ⟨(0, 0, []), [], [0], ?_, Nat.le_refl _, .inl ⟨Nat.zero_le _, Nat.le_refl _, fun c hc => (by simp at hc), rfl⟩⟩, ?_⟩
  · repeat' (first | exact trivial | exact .inl (DLe.refl _) | exact .inl (DLe.nil _ _) | (refine .inr ⟨rfl, _, ?_, rfl⟩; rfl) | exact rfl | exact .inl rfl | exact .inr ⟨rfl, rfl, rfl, rfl⟩ | exact Nat.zero_le _ | constructor)
  · rintro ⟨k, f, out⟩ hg
    dsimp only
    have hol := hg.1
    dsimp only at hol
    have hk : k ≤ l.length + 1 := by
      rcases hg.2 with h | h
      · have := h.1; dsimp only at this; omega
      · have := h.1; dsimp only at this; omega
    have e0 : IntKind.i64.wrap ((k : Int) + 1) = ((k + 1 : Nat) : Int) := wrap_nx (by omega)
    conv => whnf
    refine Fork.intro (fun h1 => ?_) (fun h1 => ?_)
    · have h1 := of_decide_eq_true h1
      conv => whnf
      refine Fork.intro (fun h2 => ?_) (fun h2 => ?_)
      · have h2 := of_decide_eq_true h2
        obtain rfl : k = l.length := by omega
        obtain ⟨hf, hn⟩ := hg.last
        conv => whnf
        refine ⟨⟨by omega, by omega, by omega⟩, ?_⟩
        rw [strB_extract]
        conv => whnf
        refine ⟨by decide, ?_⟩
        conv => whnf
        refine ⟨List Nat, strE, out ++ [(l.take l.length).drop f], (by rw [List.map_append]; rfl), fun _ => rfl, by rw [List.length_append]; show out.length + 1 ≤ _; omega, by rw [List.length_append]; show (out.length + 1) * 16 ≤ _; omega, rfl, ?_⟩
        conv => whnf
        rw [e0]
        refine ⟨(l.length + 1, l.length + 1, out ++ [(l.take l.length).drop f]), [(0, 1)], [], ?_, hn, by show l.length + 1 - (l.length + 1) < l.length + 1 - l.length; omega⟩
        repeat' (first | exact trivial | exact .inl (DLe.refl _) | exact .inl (DLe.nil _ _) | (refine .inr ⟨rfl, _, ?_, rfl⟩; rfl) | exact rfl | exact .inl rfl | exact .inr ⟨rfl, rfl, rfl, rfl⟩ | exact Nat.zero_le _ | constructor)
      · have h2 := of_decide_eq_false h2
        have hlt : k < l.length := by omega
        obtain ⟨x, hx⟩ : ∃ x, l[k]? = some x := ⟨_, List.getElem?_eq_getElem hlt⟩
        have hget : ∀ b, (strB l)[k]? = some b → b.toNat = x := fun b hb => by
          have := strB_get hl hb
          rw [hx] at this
          injection this with this
          exact this.symm
        have sep : (eqC 32) x = true → ∃ hf : f ≤ k, WdAt (eqC 32) l (k + 1, k + 1, out ++ [(l.take k).drop f]) := fun h => (hg.sep hx h).elim fun a b => ⟨a, b⟩
        have go : (eqC 32) x = false → WdAt (eqC 32) l (k + 1, f, out) := fun h => hg.go hx h
        conv => whnf
        refine ⟨⟨by omega, by omega⟩, fun b hb => ?_⟩
        rw [hget b (by simpa using hb)]
        clear hb
        conv => whnf
        refine Fork.intro (fun g => ?_) (fun g => ?_)
        · have g := of_decide_eq_true g
          obtain ⟨hf, hn⟩ := sep (decide_eq_true (show x = 32 by omega))
          conv => whnf
          refine ⟨⟨by omega, by omega, by omega⟩, ?_⟩
          rw [strB_extract]
          conv => whnf
          refine ⟨by decide, ?_⟩
          conv => whnf
          refine ⟨List Nat, strE, out ++ [(l.take k).drop f], (by rw [List.map_append]; rfl), fun _ => rfl, by rw [List.length_append]; show out.length + 1 ≤ _; omega, by rw [List.length_append]; show (out.length + 1) * 16 ≤ _; omega, rfl, ?_⟩
          conv => whnf
          rw [e0]
          refine ⟨(k + 1, k + 1, out ++ [(l.take k).drop f]), [(0, 1)], [], ?_, hn, by show l.length + 1 - (k + 1) < l.length + 1 - k; omega⟩
          repeat' (first | exact trivial | exact .inl (DLe.refl _) | exact .inl (DLe.nil _ _) | (refine .inr ⟨rfl, _, ?_, rfl⟩; rfl) | exact rfl | exact .inl rfl | exact .inr ⟨rfl, rfl, rfl, rfl⟩ | exact Nat.zero_le _ | constructor)
        · have g := of_decide_eq_false g
          have hn := go (decide_eq_false (show ¬ x = 32 by omega))
          conv => whnf
          rw [e0]
          refine ⟨(k + 1, f, out), [], [], ?_, hn, by show l.length + 1 - (k + 1) < l.length + 1 - k; omega⟩
          repeat' (first | exact trivial | exact .inl (DLe.refl _) | exact .inl (DLe.nil _ _) | (refine .inr ⟨rfl, _, ?_, rfl⟩; rfl) | exact rfl | exact .inl rfl | exact .inr ⟨rfl, rfl, rfl, rfl⟩ | exact Nat.zero_le _ | constructor)
    · have h1 := of_decide_eq_false h1
      have ho : out = splB (eqC 32) l := by
        rcases hg.2 with h | h
        · have := h.1; dsimp only at this; omega
        · exact h.2
      rw [← ho]
      conv => whnf

/-! ### Halves of a key -/
theorem beN_take {l : List Nat} {k x : Nat} (h : l[k]? = some x) : beN (l.take (k + 1)) = (beN (l.take k) * 256 + x) % 18446744073709551616 := by
  unfold beN
  rw [List.take_add_one, h]
  show List.foldl _ _ (l.take k ++ [x]) = _
  rw [List.foldl_append]; rfl
theorem u64_step (n x : Nat) : IntKind.u64.wrap (IntKind.u64.wrap ((n : Int) * 256) + IntKind.u64.wrap (x : Int)) = (((n * 256 + x) % 18446744073709551616 : Nat) : Int) := by
  have w64 : ∀ m : Int, IntKind.u64.wrap m = m % 18446744073709551616 := fun m => by rw [IntKind.wrap]; rfl
  rw [w64, w64, w64]; omega
theorem long_fn (s : List Nat) (hs : Byt s) (hlen : s.length ≤ 1000000) : Fn Tryz.prog 30 [strD s] fun d => d = u64N (rKey s) := by
  refine fnOf [] Tryz.func30 rfl (by kernel_rfl) (Nat.le_of_ble_eq_true rfl) ?_
  have hu := unhexR_fn s hs hlen
  obtain ⟨hb, hbl⟩ := unhexL_byt s
  have hk : rKey s = beN (unhexL s) := rfl
  have hcase : (unhexL s = [] ∧ unhexE s = 3) ∨ unhexE s = 0 := by
    unfold unhexL unhexE
    cases unhexT s with
    | none => exact .inl ⟨rfl, rfl⟩
    | some M => exact .inr rfl
  rw [hk]
  unfold unhexD at hu
  generalize unhexL s = b at *
  generalize unhexE s = e at *
  have hb2 : b.length ≤ 1000000 := by omega
  clear hbl hk hlen
  conv => whnf
  refine CallVC.pure hu rfl ?_
  rintro _ rfl
  conv => whnf
  refine ⟨Nat, fun k => ⟨[(6, intD k), (5, u64N (beN (b.take k))), (4, intD e), (3, rowsN b)], [], 0, ([], 0)⟩, fun k => k ≤ b.length, fun k => b.length - k, ⟨0, [], [], ?_, Nat.zero_le _⟩, ?_⟩
  · repeat' (first | exact trivial | exact .inl (DLe.refl _) | exact .inl (DLe.nil _ _) | (refine .inr ⟨rfl, _, ?_, rfl⟩; rfl) | exact rfl | exact .inl rfl | exact .inr ⟨rfl, rfl, rfl, rfl⟩ | exact Nat.zero_le _ | constructor)
  intro k hk
  replace hk : k ≤ b.length := hk
  have e0 := wrap_nx (n := k) (by omega)
  conv => whnf
  refine Fork.intro (fun h1 => ?_) (fun h1 => ?_)
  · have h1 := of_decide_eq_true h1
    have he : e = 0 := by
      rcases hcase with ⟨h, _⟩ | h
      · subst h; simp at h1; omega
      · exact h
    subst he
    obtain ⟨x, hx⟩ : ∃ x, b[k]? = some x := ⟨_, List.getElem?_eq_getElem (by omega)⟩
    have hn := beN_take hx
    have hst := u64_step (beN (b.take k)) x
    conv => whnf
    refine ⟨rfl, ⟨by omega, h1⟩, fun y hy => ?_⟩
    have hy : b[k]? = some y := hy
    obtain rfl : x = y := Option.some.inj (hx.symm.trans hy)
    clear hy
    conv => whnf
    rw [hst, e0, ← hn]
    refine ⟨k + 1, [], [], ?_, by show k + 1 ≤ b.length; omega, by show b.length - (k + 1) < b.length - k; omega⟩
    repeat' (first | exact trivial | exact .inl (DLe.refl _) | exact .inl (DLe.nil _ _) | (refine .inr ⟨rfl, _, ?_, rfl⟩; rfl) | exact rfl | exact .inl rfl | exact .inr ⟨rfl, rfl, rfl, rfl⟩ | exact Nat.zero_le _ | constructor)
  · have h1 := of_decide_eq_false h1
    obtain rfl : k = b.length := by omega
    rw [List.take_length]
    conv => whnf

/-! ### Read -/
theorem mayFR_fn {fr : D} (a : Stp) (h : DLe fr (rowsN a.frame)) : Fn Tryz.prog 12 [.agg (stF fr a)] fun d => d = boolD (maySB a) := (mayR_fn a).le fun _ _ hr => reps_one (dle_stF h) hr
theorem lineFR_fn {fr : D} (a : Stp) (ok : a.ok) (h : DLe fr (rowsN a.frame)) : Fn Tryz.prog 10 [.agg (stF fr a)] fun d => d = strD (lineS a) := (lineR_fn a ok).le fun _ _ hr => reps_one (dle_stF h) hr
theorem rStp_eq (s : List Nat) : rStp s = match decide ((spl 32 s).length = 3) && decide (wd s 0 = wSecret) with
  | true => ⟨5, 0, 0, [], rKey (wd s 1), rKey (wd s 2)⟩
  | false => match decide ((spl 32 s).length = 2) && decide (wd s 0 = wTick) with
    | true => ⟨4, 0, valQ (wd s 1), [], 0, 0⟩
    | false => match decide ((spl 32 s).length = 3) && decide (wd s 0 = wDone) with
      | true => ⟨3, valQ (wd s 1), valQ (wd s 2), [], 0, 0⟩
      | false => match decide ((spl 32 s).length = 3) && decide (wd s 0 = wPoll) with
        | true => ⟨2, valQ (wd s 1), valQ (wd s 2), [], 0, 0⟩
        | false => match decide ((spl 32 s).length = 3) && decide (wd s 0 = wFrame) with
          | true => ⟨1, valQ (wd s 1), 0, unhexL (wd s 2), 0, 0⟩
          | false => zeroS := rfl
theorem rReadS_of {s : List Nat} {a : Stp} (h : rStp s = a) : rReadS s = match maySB a && decide (lineS a = s) with
    | true => (a, 0)
    | false => (zeroS, 3) := by
  unfold rReadS; rw [h]; rfl
set_option maxHeartbeats 8000000 in
theorem rread0_fn (s : List Nat) (hs : Byt s) (hl : s.length ≤ 1000000) : Fn Tryz.prog 8 [strD s] fun d => DLe d (readD (rReadS s)) := by
  refine fnOf [(7, [0, 1, 2, 4, 5, 6, 3, 7, 8, 9]), (9, [0, 1, 2, 4, 5, 6, 3, 7, 8, 9]), (13, [0, 1, 2, 4, 5, 6, 3, 7, 8, 9, 10])] Tryz.func8 rfl (by kernel_rfl) (Nat.le_of_ble_eq_true rfl) ?_
  have hwords : Fn Tryz.prog 27 [strD s] fun d => d = rowsT (spl 32 s) := words_fn s hs hl
  have hs0 : 0 < (spl 32 s).length := Nat.pos_of_ne_zero fun h => splB_ne _ s (List.eq_nil_of_length_eq_zero h)
  have hwb := wd_byt hs
  have hwl := wd_len s
  have hok := rStp_ok s
  have hrd := fun a (h : rStp s = a) => rReadS_of h
  have hat : ∀ i x, (spl 32 s)[i]? = some x → x = wd s i := fun i x hx => by unfold wd; rw [List.getD_eq_getElem?_getD, hx]; rfl
  have hstp := rStp_eq s
  generalize hR : rStp s = R at *
  generalize spl 32 s = LL at *
  by_cases hlen : LL.length = 3
  · by_cases hw : wd s 0 = wFrame
    · have npoll : wd s 0 ≠ wPoll := by rw [hw]; decide
      have ndone : wd s 0 ≠ wDone := by rw [hw]; decide
      have nsecret : wd s 0 ≠ wSecret := by rw [hw]; decide
      have hc : R = ⟨1, valQ (wd s 1), 0, unhexL (wd s 2), 0, 0⟩ := by
        rw [hlen, hw] at hstp
        exact hstp
      subst hc
      have hr := hrd _ rfl
      have hlby := lineS_byt hok
      have hdl : DLe (rowsN (unhexL (wd s 2))) (rowsN (Stp.frame ⟨1, valQ (wd s 1), 0, unhexL (wd s 2), 0, 0⟩)) := DLe.refl _
      have hmay := mayFR_fn _ hdl
      have hlin := lineFR_fn _ hok hdl
      have hfin := dle_stF hdl
      clear hstp hrd hR
      conv => whnf
      refine CallVC.pure (hwords) rfl ?_
      rintro _ rfl
      conv => whnf
      refine Fork.intro (fun _ => ?_) (fun g => absurd (of_decide_eq_false g) (by omega))
      conv => whnf
      refine ⟨rfl, ⟨by decide, by show (0 : Int) < _; omega⟩, fun x hx => ?_⟩
      obtain rfl := hat 0 x hx
      clear hx
      conv => whnf
      refine Fork.intro (fun _ => ?_) (fun g => absurd hw ((str_is (hwb 0) (t := wFrame) (byt_of rfl) g).2 rfl))
      conv => whnf
      refine ⟨rfl, ⟨by decide, by show (2 : Int) < _; omega⟩, fun x hx => ?_⟩
      obtain rfl := hat 2 x hx
      clear hx
      conv => whnf
      refine CallVC.pure (unhexR_fn _ (hwb 2) (by have := hwl 2; omega)) rfl ?_
      rintro _ rfl
      conv => whnf
      refine ⟨rfl, ⟨by decide, by show (1 : Int) < _; omega⟩, fun x hx => ?_⟩
      obtain rfl := hat 1 x hx
      clear hx
      conv => whnf
      refine CallVC.pure (value_fn _ (hwb 1) (by have := hwl 1; omega)) rfl ?_
      rintro _ rfl
      conv => whnf
      refine Fork.intro (fun _ => ?_) (fun g => absurd (of_decide_eq_false g) (by omega))
      conv => whnf
      refine ⟨rfl, ⟨by decide, by show (0 : Int) < _; omega⟩, fun x hx => ?_⟩
      obtain rfl := hat 0 x hx
      clear hx
      conv => whnf
      refine Fork.intro (fun g => absurd ((str_is (hwb 0) (t := wPoll) (byt_of rfl) g).1 rfl) npoll) (fun _ => ?_)
      conv => whnf
      refine Fork.intro (fun _ => ?_) (fun g => absurd (of_decide_eq_false g) (by omega))
      conv => whnf
      refine ⟨rfl, ⟨by decide, by show (0 : Int) < _; omega⟩, fun x hx => ?_⟩
      obtain rfl := hat 0 x hx
      clear hx
      conv => whnf
      refine Fork.intro (fun g => absurd ((str_is (hwb 0) (t := wDone) (byt_of rfl) g).1 rfl) ndone) (fun _ => ?_)
      conv => whnf
      refine Fork.intro (fun g => absurd (of_decide_eq_true g) (by omega)) (fun _ => ?_)
      conv => whnf
      refine Fork.intro (fun _ => ?_) (fun g => absurd (of_decide_eq_false g) (by omega))
      conv => whnf
      refine ⟨rfl, ⟨by decide, by show (0 : Int) < _; omega⟩, fun x hx => ?_⟩
      obtain rfl := hat 0 x hx
      clear hx
      conv => whnf
      refine Fork.intro (fun g => absurd ((str_is (hwb 0) (t := wSecret) (byt_of rfl) g).1 rfl) nsecret) (fun _ => ?_)
      conv => whnf
      refine CallVC.pure hmay rfl ?_
      rintro _ rfl
      cases hm : maySB (⟨1, valQ (wd s 1), 0, unhexL (wd s 2), 0, 0⟩ : Stp) with
      | false =>
        rw [hm] at hr
        rw [hr]
        conv => whnf
        exact dle_pair dle_zero
      | true =>
        rw [hm] at hr
        conv => whnf
        refine CallVC.pure hlin rfl ?_
        rintro _ rfl
        conv => whnf
        refine Fork.intro (fun h => ?_) (fun h => ?_)
        · have h2 : lineS (⟨1, valQ (wd s 1), 0, unhexL (wd s 2), 0, 0⟩ : Stp) ≠ s := (str_ne hlby hs h).1 rfl
          rw [decide_eq_false h2] at hr
          rw [hr]
          conv => whnf
          exact dle_pair dle_zero
        · have h2 : lineS (⟨1, valQ (wd s 1), 0, unhexL (wd s 2), 0, 0⟩ : Stp) = s := (str_ne hlby hs h).2 rfl
          rw [decide_eq_true h2] at hr
          rw [hr]
          conv => whnf
          exact dle_pair hfin
    have nframe : wd s 0 ≠ wFrame := hw
    clear hw
    by_cases hw : wd s 0 = wPoll
    · have nframe : wd s 0 ≠ wFrame := by rw [hw]; decide
      have ndone : wd s 0 ≠ wDone := by rw [hw]; decide
      have nsecret : wd s 0 ≠ wSecret := by rw [hw]; decide
      have hc : R = ⟨2, valQ (wd s 1), valQ (wd s 2), [], 0, 0⟩ := by
        rw [hlen, hw] at hstp
        exact hstp
      subst hc
      have hr := hrd _ rfl
      have hlby := lineS_byt hok
      have hdl : DLe (.v (.slice none 0 0)) (rowsN (Stp.frame ⟨2, valQ (wd s 1), valQ (wd s 2), [], 0, 0⟩)) := dle_nilN
      have hmay := mayFR_fn _ hdl
      have hlin := lineFR_fn _ hok hdl
      have hfin := dle_stF hdl
      clear hstp hrd hR
      conv => whnf
      refine CallVC.pure (hwords) rfl ?_
      rintro _ rfl
      conv => whnf
      refine Fork.intro (fun _ => ?_) (fun g => absurd (of_decide_eq_false g) (by omega))
      conv => whnf
      refine ⟨rfl, ⟨by decide, by show (0 : Int) < _; omega⟩, fun x hx => ?_⟩
      obtain rfl := hat 0 x hx
      clear hx
      conv => whnf
      refine Fork.intro (fun g => absurd ((str_is (hwb 0) (t := wFrame) (byt_of rfl) g).1 rfl) nframe) (fun _ => ?_)
      conv => whnf
      refine Fork.intro (fun _ => ?_) (fun g => absurd (of_decide_eq_false g) (by omega))
      conv => whnf
      refine ⟨rfl, ⟨by decide, by show (0 : Int) < _; omega⟩, fun x hx => ?_⟩
      obtain rfl := hat 0 x hx
      clear hx
      conv => whnf
      refine Fork.intro (fun _ => ?_) (fun g => absurd hw ((str_is (hwb 0) (t := wPoll) (byt_of rfl) g).2 rfl))
      conv => whnf
      refine ⟨rfl, ⟨by decide, by show (1 : Int) < _; omega⟩, fun x hx => ?_⟩
      obtain rfl := hat 1 x hx
      clear hx
      conv => whnf
      refine ⟨rfl, ⟨by decide, by show (2 : Int) < _; omega⟩, fun x hx => ?_⟩
      obtain rfl := hat 2 x hx
      clear hx
      conv => whnf
      refine CallVC.pure (value_fn _ (hwb 1) (by have := hwl 1; omega)) rfl ?_
      rintro _ rfl
      conv => whnf
      refine CallVC.pure (value_fn _ (hwb 2) (by have := hwl 2; omega)) rfl ?_
      rintro _ rfl
      conv => whnf
      refine Fork.intro (fun _ => ?_) (fun g => absurd (of_decide_eq_false g) (by omega))
      conv => whnf
      refine ⟨rfl, ⟨by decide, by show (0 : Int) < _; omega⟩, fun x hx => ?_⟩
      obtain rfl := hat 0 x hx
      clear hx
      conv => whnf
      refine Fork.intro (fun g => absurd ((str_is (hwb 0) (t := wDone) (byt_of rfl) g).1 rfl) ndone) (fun _ => ?_)
      conv => whnf
      refine Fork.intro (fun g => absurd (of_decide_eq_true g) (by omega)) (fun _ => ?_)
      conv => whnf
      refine Fork.intro (fun _ => ?_) (fun g => absurd (of_decide_eq_false g) (by omega))
      conv => whnf
      refine ⟨rfl, ⟨by decide, by show (0 : Int) < _; omega⟩, fun x hx => ?_⟩
      obtain rfl := hat 0 x hx
      clear hx
      conv => whnf
      refine Fork.intro (fun g => absurd ((str_is (hwb 0) (t := wSecret) (byt_of rfl) g).1 rfl) nsecret) (fun _ => ?_)
      conv => whnf
      refine CallVC.pure hmay rfl ?_
      rintro _ rfl
      cases hm : maySB (⟨2, valQ (wd s 1), valQ (wd s 2), [], 0, 0⟩ : Stp) with
      | false =>
        rw [hm] at hr
        rw [hr]
        conv => whnf
        exact dle_pair dle_zero
      | true =>
        rw [hm] at hr
        conv => whnf
        refine CallVC.pure hlin rfl ?_
        rintro _ rfl
        conv => whnf
        refine Fork.intro (fun h => ?_) (fun h => ?_)
        · have h2 : lineS (⟨2, valQ (wd s 1), valQ (wd s 2), [], 0, 0⟩ : Stp) ≠ s := (str_ne hlby hs h).1 rfl
          rw [decide_eq_false h2] at hr
          rw [hr]
          conv => whnf
          exact dle_pair dle_zero
        · have h2 : lineS (⟨2, valQ (wd s 1), valQ (wd s 2), [], 0, 0⟩ : Stp) = s := (str_ne hlby hs h).2 rfl
          rw [decide_eq_true h2] at hr
          rw [hr]
          conv => whnf
          exact dle_pair hfin
    have npoll : wd s 0 ≠ wPoll := hw
    clear hw
    by_cases hw : wd s 0 = wDone
    · have nframe : wd s 0 ≠ wFrame := by rw [hw]; decide
      have npoll : wd s 0 ≠ wPoll := by rw [hw]; decide
      have nsecret : wd s 0 ≠ wSecret := by rw [hw]; decide
      have hc : R = ⟨3, valQ (wd s 1), valQ (wd s 2), [], 0, 0⟩ := by
        rw [hlen, hw] at hstp
        exact hstp
      subst hc
      have hr := hrd _ rfl
      have hlby := lineS_byt hok
      have hdl : DLe (.v (.slice none 0 0)) (rowsN (Stp.frame ⟨3, valQ (wd s 1), valQ (wd s 2), [], 0, 0⟩)) := dle_nilN
      have hmay := mayFR_fn _ hdl
      have hlin := lineFR_fn _ hok hdl
      have hfin := dle_stF hdl
      clear hstp hrd hR
      conv => whnf
      refine CallVC.pure (hwords) rfl ?_
      rintro _ rfl
      conv => whnf
      refine Fork.intro (fun _ => ?_) (fun g => absurd (of_decide_eq_false g) (by omega))
      conv => whnf
      refine ⟨rfl, ⟨by decide, by show (0 : Int) < _; omega⟩, fun x hx => ?_⟩
      obtain rfl := hat 0 x hx
      clear hx
      conv => whnf
      refine Fork.intro (fun g => absurd ((str_is (hwb 0) (t := wFrame) (byt_of rfl) g).1 rfl) nframe) (fun _ => ?_)
      conv => whnf
      refine Fork.intro (fun _ => ?_) (fun g => absurd (of_decide_eq_false g) (by omega))
      conv => whnf
      refine ⟨rfl, ⟨by decide, by show (0 : Int) < _; omega⟩, fun x hx => ?_⟩
      obtain rfl := hat 0 x hx
      clear hx
      conv => whnf
      refine Fork.intro (fun g => absurd ((str_is (hwb 0) (t := wPoll) (byt_of rfl) g).1 rfl) npoll) (fun _ => ?_)
      conv => whnf
      refine Fork.intro (fun _ => ?_) (fun g => absurd (of_decide_eq_false g) (by omega))
      conv => whnf
      refine ⟨rfl, ⟨by decide, by show (0 : Int) < _; omega⟩, fun x hx => ?_⟩
      obtain rfl := hat 0 x hx
      clear hx
      conv => whnf
      refine Fork.intro (fun _ => ?_) (fun g => absurd hw ((str_is (hwb 0) (t := wDone) (byt_of rfl) g).2 rfl))
      conv => whnf
      refine ⟨rfl, ⟨by decide, by show (1 : Int) < _; omega⟩, fun x hx => ?_⟩
      obtain rfl := hat 1 x hx
      clear hx
      conv => whnf
      refine ⟨rfl, ⟨by decide, by show (2 : Int) < _; omega⟩, fun x hx => ?_⟩
      obtain rfl := hat 2 x hx
      clear hx
      conv => whnf
      refine CallVC.pure (value_fn _ (hwb 1) (by have := hwl 1; omega)) rfl ?_
      rintro _ rfl
      conv => whnf
      refine CallVC.pure (value_fn _ (hwb 2) (by have := hwl 2; omega)) rfl ?_
      rintro _ rfl
      conv => whnf
      refine Fork.intro (fun g => absurd (of_decide_eq_true g) (by omega)) (fun _ => ?_)
      conv => whnf
      refine Fork.intro (fun _ => ?_) (fun g => absurd (of_decide_eq_false g) (by omega))
      conv => whnf
      refine ⟨rfl, ⟨by decide, by show (0 : Int) < _; omega⟩, fun x hx => ?_⟩
      obtain rfl := hat 0 x hx
      clear hx
      conv => whnf
      refine Fork.intro (fun g => absurd ((str_is (hwb 0) (t := wSecret) (byt_of rfl) g).1 rfl) nsecret) (fun _ => ?_)
      conv => whnf
      refine CallVC.pure hmay rfl ?_
      rintro _ rfl
      cases hm : maySB (⟨3, valQ (wd s 1), valQ (wd s 2), [], 0, 0⟩ : Stp) with
      | false =>
        rw [hm] at hr
        rw [hr]
        conv => whnf
        exact dle_pair dle_zero
      | true =>
        rw [hm] at hr
        conv => whnf
        refine CallVC.pure hlin rfl ?_
        rintro _ rfl
        conv => whnf
        refine Fork.intro (fun h => ?_) (fun h => ?_)
        · have h2 : lineS (⟨3, valQ (wd s 1), valQ (wd s 2), [], 0, 0⟩ : Stp) ≠ s := (str_ne hlby hs h).1 rfl
          rw [decide_eq_false h2] at hr
          rw [hr]
          conv => whnf
          exact dle_pair dle_zero
        · have h2 : lineS (⟨3, valQ (wd s 1), valQ (wd s 2), [], 0, 0⟩ : Stp) = s := (str_ne hlby hs h).2 rfl
          rw [decide_eq_true h2] at hr
          rw [hr]
          conv => whnf
          exact dle_pair hfin
    have ndone : wd s 0 ≠ wDone := hw
    clear hw
    by_cases hw : wd s 0 = wSecret
    · have nframe : wd s 0 ≠ wFrame := by rw [hw]; decide
      have npoll : wd s 0 ≠ wPoll := by rw [hw]; decide
      have ndone : wd s 0 ≠ wDone := by rw [hw]; decide
      have hc : R = ⟨5, 0, 0, [], rKey (wd s 1), rKey (wd s 2)⟩ := by
        rw [hlen, hw] at hstp
        exact hstp
      subst hc
      have hr := hrd _ rfl
      have hlby := lineS_byt hok
      have hdl : DLe (.v (.slice none 0 0)) (rowsN (Stp.frame ⟨5, 0, 0, [], rKey (wd s 1), rKey (wd s 2)⟩)) := dle_nilN
      have hmay := mayFR_fn _ hdl
      have hlin := lineFR_fn _ hok hdl
      have hfin := dle_stF hdl
      clear hstp hrd hR
      conv => whnf
      refine CallVC.pure (hwords) rfl ?_
      rintro _ rfl
      conv => whnf
      refine Fork.intro (fun _ => ?_) (fun g => absurd (of_decide_eq_false g) (by omega))
      conv => whnf
      refine ⟨rfl, ⟨by decide, by show (0 : Int) < _; omega⟩, fun x hx => ?_⟩
      obtain rfl := hat 0 x hx
      clear hx
      conv => whnf
      refine Fork.intro (fun g => absurd ((str_is (hwb 0) (t := wFrame) (byt_of rfl) g).1 rfl) nframe) (fun _ => ?_)
      conv => whnf
      refine Fork.intro (fun _ => ?_) (fun g => absurd (of_decide_eq_false g) (by omega))
      conv => whnf
      refine ⟨rfl, ⟨by decide, by show (0 : Int) < _; omega⟩, fun x hx => ?_⟩
      obtain rfl := hat 0 x hx
      clear hx
      conv => whnf
      refine Fork.intro (fun g => absurd ((str_is (hwb 0) (t := wPoll) (byt_of rfl) g).1 rfl) npoll) (fun _ => ?_)
      conv => whnf
      refine Fork.intro (fun _ => ?_) (fun g => absurd (of_decide_eq_false g) (by omega))
      conv => whnf
      refine ⟨rfl, ⟨by decide, by show (0 : Int) < _; omega⟩, fun x hx => ?_⟩
      obtain rfl := hat 0 x hx
      clear hx
      conv => whnf
      refine Fork.intro (fun g => absurd ((str_is (hwb 0) (t := wDone) (byt_of rfl) g).1 rfl) ndone) (fun _ => ?_)
      conv => whnf
      refine Fork.intro (fun g => absurd (of_decide_eq_true g) (by omega)) (fun _ => ?_)
      conv => whnf
      refine Fork.intro (fun _ => ?_) (fun g => absurd (of_decide_eq_false g) (by omega))
      conv => whnf
      refine ⟨rfl, ⟨by decide, by show (0 : Int) < _; omega⟩, fun x hx => ?_⟩
      obtain rfl := hat 0 x hx
      clear hx
      conv => whnf
      refine Fork.intro (fun _ => ?_) (fun g => absurd hw ((str_is (hwb 0) (t := wSecret) (byt_of rfl) g).2 rfl))
      conv => whnf
      refine ⟨rfl, ⟨by decide, by show (1 : Int) < _; omega⟩, fun x hx => ?_⟩
      obtain rfl := hat 1 x hx
      clear hx
      conv => whnf
      refine ⟨rfl, ⟨by decide, by show (2 : Int) < _; omega⟩, fun x hx => ?_⟩
      obtain rfl := hat 2 x hx
      clear hx
      conv => whnf
      refine CallVC.pure (long_fn _ (hwb 1) (by have := hwl 1; omega)) rfl ?_
      rintro _ rfl
      conv => whnf
      refine CallVC.pure (long_fn _ (hwb 2) (by have := hwl 2; omega)) rfl ?_
      rintro _ rfl
      conv => whnf
      refine CallVC.pure hmay rfl ?_
      rintro _ rfl
      cases hm : maySB (⟨5, 0, 0, [], rKey (wd s 1), rKey (wd s 2)⟩ : Stp) with
      | false =>
        rw [hm] at hr
        rw [hr]
        conv => whnf
        exact dle_pair dle_zero
      | true =>
        rw [hm] at hr
        conv => whnf
        refine CallVC.pure hlin rfl ?_
        rintro _ rfl
        conv => whnf
        refine Fork.intro (fun h => ?_) (fun h => ?_)
        · have h2 : lineS (⟨5, 0, 0, [], rKey (wd s 1), rKey (wd s 2)⟩ : Stp) ≠ s := (str_ne hlby hs h).1 rfl
          rw [decide_eq_false h2] at hr
          rw [hr]
          conv => whnf
          exact dle_pair dle_zero
        · have h2 : lineS (⟨5, 0, 0, [], rKey (wd s 1), rKey (wd s 2)⟩ : Stp) = s := (str_ne hlby hs h).2 rfl
          rw [decide_eq_true h2] at hr
          rw [hr]
          conv => whnf
          exact dle_pair hfin
    have nsecret : wd s 0 ≠ wSecret := hw
    clear hw
    have hc : R = zeroS := by
      rw [hlen, show decide (wd s 0 = wFrame) = false from decide_eq_false nframe, show decide (wd s 0 = wPoll) = false from decide_eq_false npoll, show decide (wd s 0 = wDone) = false from decide_eq_false ndone, show decide (wd s 0 = wSecret) = false from decide_eq_false nsecret] at hstp
      exact hstp
    subst hc
    have hr := hrd _ rfl
    have hlby := lineS_byt hok
    have hdl : DLe (.v (.slice none 0 0)) (rowsN (Stp.frame zeroS)) := dle_nilN
    have hmay := mayFR_fn _ hdl
    have hlin := lineFR_fn _ hok hdl
    have hfin := dle_stF hdl
    clear hstp hrd hR
    conv => whnf
    refine CallVC.pure (hwords) rfl ?_
    rintro _ rfl
    conv => whnf
    refine Fork.intro (fun _ => ?_) (fun g => absurd (of_decide_eq_false g) (by omega))
    conv => whnf
    refine ⟨rfl, ⟨by decide, by show (0 : Int) < _; omega⟩, fun x hx => ?_⟩
    obtain rfl := hat 0 x hx
    clear hx
    conv => whnf
    refine Fork.intro (fun g => absurd ((str_is (hwb 0) (t := wFrame) (byt_of rfl) g).1 rfl) nframe) (fun _ => ?_)
    conv => whnf
    refine Fork.intro (fun _ => ?_) (fun g => absurd (of_decide_eq_false g) (by omega))
    conv => whnf
    refine ⟨rfl, ⟨by decide, by show (0 : Int) < _; omega⟩, fun x hx => ?_⟩
    obtain rfl := hat 0 x hx
    clear hx
    conv => whnf
    refine Fork.intro (fun g => absurd ((str_is (hwb 0) (t := wPoll) (byt_of rfl) g).1 rfl) npoll) (fun _ => ?_)
    conv => whnf
    refine Fork.intro (fun _ => ?_) (fun g => absurd (of_decide_eq_false g) (by omega))
    conv => whnf
    refine ⟨rfl, ⟨by decide, by show (0 : Int) < _; omega⟩, fun x hx => ?_⟩
    obtain rfl := hat 0 x hx
    clear hx
    conv => whnf
    refine Fork.intro (fun g => absurd ((str_is (hwb 0) (t := wDone) (byt_of rfl) g).1 rfl) ndone) (fun _ => ?_)
    conv => whnf
    refine Fork.intro (fun g => absurd (of_decide_eq_true g) (by omega)) (fun _ => ?_)
    conv => whnf
    refine Fork.intro (fun _ => ?_) (fun g => absurd (of_decide_eq_false g) (by omega))
    conv => whnf
    refine ⟨rfl, ⟨by decide, by show (0 : Int) < _; omega⟩, fun x hx => ?_⟩
    obtain rfl := hat 0 x hx
    clear hx
    conv => whnf
    refine Fork.intro (fun g => absurd ((str_is (hwb 0) (t := wSecret) (byt_of rfl) g).1 rfl) nsecret) (fun _ => ?_)
    conv => whnf
    refine CallVC.pure hmay rfl ?_
    rintro _ rfl
    cases hm : maySB zeroS with
    | false =>
      rw [hm] at hr
      rw [hr]
      conv => whnf
      exact dle_pair dle_zero
    | true =>
      rw [hm] at hr
      conv => whnf
      refine CallVC.pure hlin rfl ?_
      rintro _ rfl
      conv => whnf
      refine Fork.intro (fun h => ?_) (fun h => ?_)
      · have h2 : lineS zeroS ≠ s := (str_ne hlby hs h).1 rfl
        rw [decide_eq_false h2] at hr
        rw [hr]
        conv => whnf
        exact dle_pair dle_zero
      · have h2 : lineS zeroS = s := (str_ne hlby hs h).2 rfl
        rw [decide_eq_true h2] at hr
        rw [hr]
        conv => whnf
        exact dle_pair hfin
  by_cases hlen2 : LL.length = 2
  · have h3 := hlen
    clear hlen
    have hlen := hlen2
    by_cases hw : wd s 0 = wTick
    · skip
      have hc : R = ⟨4, 0, valQ (wd s 1), [], 0, 0⟩ := by
        rw [hlen, hw] at hstp
        exact hstp
      subst hc
      have hr := hrd _ rfl
      have hlby := lineS_byt hok
      have hdl : DLe (.v (.slice none 0 0)) (rowsN (Stp.frame ⟨4, 0, valQ (wd s 1), [], 0, 0⟩)) := dle_nilN
      have hmay := mayFR_fn _ hdl
      have hlin := lineFR_fn _ hok hdl
      have hfin := dle_stF hdl
      clear hstp hrd hR
      conv => whnf
      refine CallVC.pure (hwords) rfl ?_
      rintro _ rfl
      conv => whnf
      refine Fork.intro (fun g => absurd (of_decide_eq_true g) (by omega)) (fun _ => ?_)
      conv => whnf
      refine Fork.intro (fun g => absurd (of_decide_eq_true g) (by omega)) (fun _ => ?_)
      conv => whnf
      refine Fork.intro (fun g => absurd (of_decide_eq_true g) (by omega)) (fun _ => ?_)
      conv => whnf
      refine Fork.intro (fun _ => ?_) (fun g => absurd (of_decide_eq_false g) (by omega))
      conv => whnf
      refine ⟨rfl, ⟨by decide, by show (0 : Int) < _; omega⟩, fun x hx => ?_⟩
      obtain rfl := hat 0 x hx
      clear hx
      conv => whnf
      refine Fork.intro (fun _ => ?_) (fun g => absurd hw ((str_is (hwb 0) (t := wTick) (byt_of rfl) g).2 rfl))
      conv => whnf
      refine ⟨rfl, ⟨by decide, by show (1 : Int) < _; omega⟩, fun x hx => ?_⟩
      obtain rfl := hat 1 x hx
      clear hx
      conv => whnf
      refine CallVC.pure (value_fn _ (hwb 1) (by have := hwl 1; omega)) rfl ?_
      rintro _ rfl
      conv => whnf
      refine Fork.intro (fun g => absurd (of_decide_eq_true g) (by omega)) (fun _ => ?_)
      conv => whnf
      refine CallVC.pure hmay rfl ?_
      rintro _ rfl
      cases hm : maySB (⟨4, 0, valQ (wd s 1), [], 0, 0⟩ : Stp) with
      | false =>
        rw [hm] at hr
        rw [hr]
        conv => whnf
        exact dle_pair dle_zero
      | true =>
        rw [hm] at hr
        conv => whnf
        refine CallVC.pure hlin rfl ?_
        rintro _ rfl
        conv => whnf
        refine Fork.intro (fun h => ?_) (fun h => ?_)
        · have h2 : lineS (⟨4, 0, valQ (wd s 1), [], 0, 0⟩ : Stp) ≠ s := (str_ne hlby hs h).1 rfl
          rw [decide_eq_false h2] at hr
          rw [hr]
          conv => whnf
          exact dle_pair dle_zero
        · have h2 : lineS (⟨4, 0, valQ (wd s 1), [], 0, 0⟩ : Stp) = s := (str_ne hlby hs h).2 rfl
          rw [decide_eq_true h2] at hr
          rw [hr]
          conv => whnf
          exact dle_pair hfin
    have ntick : wd s 0 ≠ wTick := hw
    clear hw
    have hc : R = zeroS := by
      rw [hlen, show decide (wd s 0 = wTick) = false from decide_eq_false ntick] at hstp
      exact hstp
    subst hc
    have hr := hrd _ rfl
    have hlby := lineS_byt hok
    have hdl : DLe (.v (.slice none 0 0)) (rowsN (Stp.frame zeroS)) := dle_nilN
    have hmay := mayFR_fn _ hdl
    have hlin := lineFR_fn _ hok hdl
    have hfin := dle_stF hdl
    clear hstp hrd hR
    conv => whnf
    refine CallVC.pure (hwords) rfl ?_
    rintro _ rfl
    conv => whnf
    refine Fork.intro (fun g => absurd (of_decide_eq_true g) (by omega)) (fun _ => ?_)
    conv => whnf
    refine Fork.intro (fun g => absurd (of_decide_eq_true g) (by omega)) (fun _ => ?_)
    conv => whnf
    refine Fork.intro (fun g => absurd (of_decide_eq_true g) (by omega)) (fun _ => ?_)
    conv => whnf
    refine Fork.intro (fun _ => ?_) (fun g => absurd (of_decide_eq_false g) (by omega))
    conv => whnf
    refine ⟨rfl, ⟨by decide, by show (0 : Int) < _; omega⟩, fun x hx => ?_⟩
    obtain rfl := hat 0 x hx
    clear hx
    conv => whnf
    refine Fork.intro (fun g => absurd ((str_is (hwb 0) (t := wTick) (byt_of rfl) g).1 rfl) ntick) (fun _ => ?_)
    conv => whnf
    refine Fork.intro (fun g => absurd (of_decide_eq_true g) (by omega)) (fun _ => ?_)
    conv => whnf
    refine CallVC.pure hmay rfl ?_
    rintro _ rfl
    cases hm : maySB zeroS with
    | false =>
      rw [hm] at hr
      rw [hr]
      conv => whnf
      exact dle_pair dle_zero
    | true =>
      rw [hm] at hr
      conv => whnf
      refine CallVC.pure hlin rfl ?_
      rintro _ rfl
      conv => whnf
      refine Fork.intro (fun h => ?_) (fun h => ?_)
      · have h2 : lineS zeroS ≠ s := (str_ne hlby hs h).1 rfl
        rw [decide_eq_false h2] at hr
        rw [hr]
        conv => whnf
        exact dle_pair dle_zero
      · have h2 : lineS zeroS = s := (str_ne hlby hs h).2 rfl
        rw [decide_eq_true h2] at hr
        rw [hr]
        conv => whnf
        exact dle_pair hfin
  have h3 := hlen
  have h2 := hlen2
  have hc : R = zeroS := by
    rw [show decide (LL.length = 3) = false from decide_eq_false h3, show decide (LL.length = 2) = false from decide_eq_false h2] at hstp
    exact hstp
  subst hc
  have hr := hrd _ rfl
  have hlby := lineS_byt hok
  have hdl : DLe (.v (.slice none 0 0)) (rowsN (Stp.frame zeroS)) := dle_nilN
  have hmay := mayFR_fn _ hdl
  have hlin := lineFR_fn _ hok hdl
  have hfin := dle_stF hdl
  clear hstp hrd hR
  conv => whnf
  refine CallVC.pure (hwords) rfl ?_
  rintro _ rfl
  conv => whnf
  refine Fork.intro (fun g => absurd (of_decide_eq_true g) (by omega)) (fun _ => ?_)
  conv => whnf
  refine Fork.intro (fun g => absurd (of_decide_eq_true g) (by omega)) (fun _ => ?_)
  conv => whnf
  refine Fork.intro (fun g => absurd (of_decide_eq_true g) (by omega)) (fun _ => ?_)
  conv => whnf
  refine Fork.intro (fun g => absurd (of_decide_eq_true g) (by omega)) (fun _ => ?_)
  conv => whnf
  refine Fork.intro (fun g => absurd (of_decide_eq_true g) (by omega)) (fun _ => ?_)
  conv => whnf
  refine CallVC.pure hmay rfl ?_
  rintro _ rfl
  cases hm : maySB zeroS with
  | false =>
    rw [hm] at hr
    rw [hr]
    conv => whnf
    exact dle_pair dle_zero
  | true =>
    rw [hm] at hr
    conv => whnf
    refine CallVC.pure hlin rfl ?_
    rintro _ rfl
    conv => whnf
    refine Fork.intro (fun h => ?_) (fun h => ?_)
    · have h2 : lineS zeroS ≠ s := (str_ne hlby hs h).1 rfl
      rw [decide_eq_false h2] at hr
      rw [hr]
      conv => whnf
      exact dle_pair dle_zero
    · have h2 : lineS zeroS = s := (str_ne hlby hs h).2 rfl
      rw [decide_eq_true h2] at hr
      rw [hr]
      conv => whnf
      exact dle_pair hfin
theorem rread_fn (s : List Nat) (hs : Byt s) (hl : s.length ≤ 1000000) : Fn Tryz.prog 8 [strD s] fun d => d = readD (pReadS s) := by
  have := Fn.exact (rread0_fn s hs hl)
  rwa [readS_eq] at this
end Go.Proofs.YtbjhkhhbdlnfbaaGreatDoor.V
namespace Go.Proofs.YtbjhkhhbdlnfbaaGreatDoor.V
open Go.RowKit
attribute [local irreducible] Fn FnN OpVC DLe

theorem not_dec {p : Prop} [Decidable p] {b : Bool} (h : (!decide p) = b) : (b = true → ¬ p) ∧ (b = false → p) := by
  subst h
  exact ⟨fun h => by simpa using h, fun h => by simpa using h⟩
theorem shortS_fn (l : List Nat) (n : Nat) : Fn Tryz.prog 6 [strD l, intD n] fun d => d = strD (l.take n) := by
  refine fnOf [] Tryz.func6 rfl (by kernel_rfl) (Nat.le_of_ble_eq_true rfl) ?_
  have hsz : ((strB l).size : Int) = (l.length : Int) := by rw [strB_size]
  conv => whnf
  refine Fork.intro (fun h => ?_) (fun h => ?_)
  · have h := of_decide_eq_true h
    conv => whnf
    refine ⟨⟨by decide, by omega, by omega⟩, ?_⟩
    rw [strB_extract]
    conv => whnf
    exact congrArg (fun l => strD l) (by simp)
  · have h := of_decide_eq_false h
    rw [List.take_of_length_le (by omega)]
    conv => whnf
theorem pReadS_frame (s : List Nat) : (pReadS s).1.frame.length ≤ 1600 := by
  unfold pReadS
  split
  · rename_i h
    rw [Bool.and_eq_true] at h
    exact (of_decide_eq_true h.1 : MayS _).2.2.2.1
  · exact Nat.zero_le _
end Go.Proofs.YtbjhkhhbdlnfbaaGreatDoor.V
