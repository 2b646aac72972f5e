/-
  Steps' words, digits, numbers, which steps may be written: the program's, by value. Conditions: numbers of their types.
  Bytes as figures, halves of keys: the program's, by value. Conditions: bytes; texts not too long.
  script.Line by value. Conditions: numbers of their types. (printed by gen_ie.py)
  script.Read by value. Conditions: a text of bytes, not too long. (printed by gen_if.py)
  Which steps may be, their lines, steps compared: the document's, by value. Conditions: numbers of their types. (printed by gen_ii.py)
-/
import Derived.Test.YtbjhkhhbdlnfbaaGreatDoorK3
import Derived.Test.YtbjhkhhbdlnfbaaGreatDoorK5
import Derived.Test.YtbjhkhhbdlnfbaaGreatDoorK2
import Derived.Test.YtbjhkhhbdlnfbaaGreatDoorK4
namespace Go.Proofs.YtbjhkhhbdlnfbaaGreatDoor.V
open Go.RowKit
section
variable {P : Program}
theorem Fn.exact {f : FuncId} {args : List D} {D0 : D} (h : Fn P f args fun d => DLe d D0) : Fn P f args fun d => d = D0 := by
  unfold Fn at *
  exact ⟨h.1, fun w B vs hB hr => (h.2 w B vs hB hr).mono fun e w' ⟨d, v, h1, h2, h3, h4⟩ => ⟨D0, v, rfl, h2, h3, h1 _ _ h4⟩⟩
theorem Fn.le {f : FuncId} {args args' : List D} {Q : D → Prop} (h : Fn P f args Q) (hle : ∀ C vs, reps C args' vs → reps C args vs) : Fn P f args' Q := by
  unfold Fn at *
  exact ⟨h.1, fun w B vs hB hr => h.2 w B vs hB (hle _ _ hr)⟩
end
attribute [local irreducible] Fn FnN OpVC

abbrev u64N (n : Nat) : D := .v (.int .u64 n)
def byN (x : Nat) : List D := [u8D x]
abbrev rowsN (L : List Nat) : D := .rows Nat 1 byN L
def stD (a : Stp) : List D := [intD a.kind, intD a.nic, intD a.num, rowsN a.frame, u64N a.lo, u64N a.hi]
abbrev rowsS (L : List Stp) : D := .rows Stp 6 stD L
theorem eqKeyOk : eqOk Tryz.prog 25 [1, 1] = true := by kernel_rfl

theorem stW_no {n : Int} (h : n < 1 ∨ 5 < n) : stW n = [] := by
  unfold stW
  split <;> first | rfl | (exfalso; revert h; decide)
theorem stWord_fn (n : Int) : Fn Tryz.prog 22 [intD n] fun d => d = strD (stW n) := by
  refine fnOf [] Tryz.func22 rfl (by kernel_rfl) (Nat.le_of_ble_eq_true rfl) ?_
  by_cases h : n < 0
  · rw [stW_no (by omega)]
    conv => whnf
    refine Fork.intro (fun _ => ?_) (fun g => absurd h (of_decide_eq_false g))
    conv => whnf
    rfl
  by_cases h8 : 6 ≤ n
  · rw [stW_no (by omega)]
    conv => whnf
    refine Fork.intro (fun g => absurd (of_decide_eq_true g) h) (fun _ => ?_)
    conv => whnf
    refine Fork.intro (fun _ => ?_) (fun g => absurd h8 (of_decide_eq_false g))
    conv => whnf
    rfl
  rcases (by omega : n = 0 ∨ n = 1 ∨ n = 2 ∨ n = 3 ∨ n = 4 ∨ n = 5) with rfl | rfl | rfl | rfl | rfl | rfl
  all_goals
    conv => whnf
    (refine ⟨by decide, ?_⟩; conv => whnf)
    rfl

def DgAt (n : Nat) (g : Nat × List Nat × Bool) : Prop := (g.2.2 = true → dgs n = dgs g.1 ++ g.2.1) ∧ (g.2.2 = false → g.2.1 = dgs n) ∧ g.1 ≤ n
theorem DgAt.step {n m : Nat} {out : List Nat} (hg : DgAt n (m, out, true)) : m ≤ n ∧ out.length ≤ (dgs n).length ∧ DgAt n (m / 10, (48 + m % 10) :: out, decide (0 < m / 10)) := by
  obtain ⟨h1, _, h3⟩ := hg
  have h1 := h1 rfl
  dsimp only at h1 h3
  refine ⟨h3, by rw [h1]; simp, fun g => ?_, fun g => ?_, by show m / 10 ≤ n; omega⟩
  · have g := of_decide_eq_true g
    dsimp only
    rw [h1, dgs_ge (n := m) (by omega)]
    simp
  · have g := of_decide_eq_false g
    dsimp only
    rw [h1, dgs_lt (n := m) (by omega), show m % 10 = m by omega]
    rfl
theorem digitsP_fn (n : Nat) (h : n < 10000000000) : Fn Tryz.prog 31 [intD n] fun d => d = strD (dgs n) := by
  refine fnOf [] Tryz.func31 rfl (by kernel_rfl) (Nat.le_of_ble_eq_true rfl) ?_
  have hlen := dgs_len 9 n (by omega)
  conv => whnf
  refine ⟨Nat × List Nat × Bool, fun g => ⟨[(4, boolD g.2.2), (3, strD g.2.1), (0, intD g.1)], [], 0, ([], 0)⟩,
    DgAt n, fun g => match g.2.2 with | true => g.1 + 1 | false => 0, ⟨(n, [], true), [], [], ?_, ⟨fun _ => by simp, fun h => (by cases h), Nat.le_refl _⟩⟩, ?_⟩
  · repeat' (first | exact trivial | exact .inl (DLe.refl _) | exact .inl (DLe.nil _ _) | (refine .inr ⟨rfl, _, ?_, rfl⟩; rfl) | exact rfl | exact .inl rfl | exact .inr ⟨rfl, rfl, rfl, rfl⟩ | exact Nat.zero_le _ | constructor)
  · rintro ⟨m, out, ok⟩ hg
    cases ok with
    | false =>
      dsimp only
      conv => whnf
      have hd : out = dgs n := hg.2.1 rfl
      rw [hd]
    | true =>
      obtain ⟨hm, ho, hnext⟩ := DgAt.step hg
      have e1 : IntKind.u8.wrap (IntKind.i64.wrap (48 + (m : Int).tmod 10)) = ((48 + m % 10 : Nat) : Int) := by
        rw [Int.tmod_eq_emod_of_nonneg (by omega), IntWalk.i64_in _ (by omega), u8_small (by omega)]; omega
      have e2 : IntKind.i64.wrap ((m : Int).tdiv 10) = ((m / 10 : Nat) : Int) := by
        rw [Int.tdiv_eq_ediv_of_nonneg (by omega), IntWalk.i64_in _ (by omega)]; omega
      have e3 : decide (0 < ((m / 10 : Nat) : Int)) = decide (0 < m / 10) := decide_eq_decide.2 (by omega)
      dsimp only
      conv => whnf
      refine ⟨by decide, ?_⟩
      conv => whnf
      (refine ⟨by decide, ?_⟩; conv => whnf)
      refine op_bytesStr (L := [((48 + m % 10 : Nat) : Int)]) ttH rfl rfl rfl rfl ?_ rfl ?_
      · exact congrArg (fun x => some [[u8D x]]) e1
      rw [bytesOf_str, show [((48 + m % 10 : Nat) : Int)].map Int.toNat = [48 + m % 10] from rfl]
      conv => whnf
      refine ⟨str_le (by simp; omega), ?_⟩
      rw [strB_append]
      conv => whnf
      refine ⟨by decide, ?_⟩
      conv => whnf
      rw [e2]
      conv => whnf
      rw [e3]
      refine ⟨(m / 10, (48 + m % 10) :: out, decide (0 < m / 10)), [], [], ?_, hnext, ?_⟩
      · repeat' (first | exact trivial | exact .inl (DLe.refl _) | exact .inl (DLe.nil _ _) | (refine .inr ⟨rfl, _, ?_, rfl⟩; rfl) | exact rfl | exact .inl rfl | exact .inr ⟨rfl, rfl, rfl, rfl⟩ | exact Nat.zero_le _ | constructor)
      · show (match decide (0 < m / 10) with | true => m / 10 + 1 | false => 0) < m + 1
        cases h9 : decide (0 < m / 10) with
        | true => have := of_decide_eq_true h9; show m / 10 + 1 < m + 1; omega
        | false => exact Nat.succ_pos _
theorem digitsI_fn (n : Int) (h : 0 ≤ n ∧ n < 10000000000) : Fn Tryz.prog 31 [intD n] fun d => d = strD (dgI n) := by
  have := digitsP_fn n.toNat (by omega)
  rw [show ((n.toNat : Nat) : Int) = n by omega] at this
  exact this

theorem str_is {s t : List Nat} (hs : Byt s) (ht : Byt t) {b : Bool} (h : ((strB s).toList == (strB t).toList) = b) : (b = true → s = t) ∧ (b = false → s ≠ t) := by
  rw [strB_beq hs ht] at h
  subst h
  exact ⟨fun h => by simpa using h, fun h => by simpa using h⟩
theorem str_ne {s t : List Nat} (hs : Byt s) (ht : Byt t) {b : Bool} (h : (!((strB s).toList == (strB t).toList)) = b) : (b = true → s ≠ t) ∧ (b = false → s = t) := by
  rw [strB_beq hs ht] at h
  subst h
  exact ⟨fun h => by simpa using h, fun h => by simpa using h⟩
theorem numM_next {m : Nat} {bad : Int} {l : List Nat} {k n x : Nat} (hx : l[k]? = some x) (hs : numM m bad l 0 = numM m bad (l.drop k) n) : numM m bad l 0 = match isDig x && !decide (m < n) with
    | true => numM m bad (l.drop (k + 1)) (n * 10 + (x - 48))
    | false => bad := by
  have e : l.drop k = x :: l.drop (k + 1) := by
    have hk := (List.getElem?_eq_some_iff.1 hx).1
    rw [List.drop_eq_getElem_cons hk]
    congr 1
    rw [List.getElem?_eq_getElem hk] at hx
    injection hx
  rw [hs, e, numM]
  rfl

set_option maxHeartbeats 1000000 in
theorem number_fnP (l : List Nat) (hl : Byt l) : Fn Tryz.prog 23 [strD l] fun d => d = intD (numQ l) := by
  refine fnOf [] Tryz.func23 rfl (by kernel_rfl) (Nat.le_of_ble_eq_true rfl) ?_
  conv => whnf
  refine op_rangeStr ttH rfl rfl rfl ?_
  conv => whnf
  refine ⟨Nat × Nat, fun g => ⟨[(7, .loc 0 0), (3, intD g.2), (0, strD l)], [(0, strI (strB l) g.1)], 1, ([], 0)⟩,
    fun g => g.1 ≤ l.length ∧ g.2 ≤ 40959 ∧ numM 4095 (-1) l 0 = numM 4095 (-1) (l.drop g.1) g.2, fun g => l.length - g.1, ⟨(0, 0), [], [], ?_, Nat.zero_le _, Nat.zero_le _, rfl⟩, ?_⟩
  · repeat' (first | exact trivial | exact .inl (DLe.refl _) | exact .inl (DLe.nil _ _) | (refine .inr ⟨rfl, _, ?_, rfl⟩; rfl) | exact rfl | exact .inl rfl | exact .inr ⟨rfl, rfl, rfl, rfl⟩ | exact Nat.zero_le _ | constructor)
  · rintro ⟨k, n⟩ ⟨hk, hn, hs⟩
    dsimp only at hk hn hs
    dsimp only
    conv => whnf
    refine op_nextStr rfl rfl rfl (fun c w hlt hd => ?_) (fun hge => ?_)
    · rw [strB_size] at hlt
      obtain ⟨x, hx⟩ : ∃ x, l[k]? = some x := ⟨_, List.getElem?_eq_getElem hlt⟩
      have hx256 := hl.get hx
      have hne : l ≠ [] := fun e => by rw [e] at hlt; simp at hlt
      have hnx := numM_next hx hs
      rw [← numQ_ne hne] at hnx
      by_cases hx7 : x < 128
      · rw [decode_low hl hx hx7] at hd
        injection hd with hd1 hd2; subst hd1 hd2
        cases g1 : isDig x with
        | false =>
          rw [g1] at hnx
          rw [hnx]
          have g1' : ¬ (48 ≤ x ∧ x ≤ 57) := by
            intro h; unfold isDig at g1; rw [decide_eq_true h.1, decide_eq_true h.2] at g1; cases g1
          conv => whnf
          refine Fork.intro (fun g => ?_) (fun g => ?_)
          · conv => whnf
            rfl
          · conv => whnf
            refine Fork.intro (fun g2 => ?_) (fun g2 => absurd ⟨by have := of_decide_eq_false g; omega, by have := of_decide_eq_false g2; omega⟩ g1')
            conv => whnf
            rfl
        | true =>
          unfold isDig at g1
          simp only [Bool.and_eq_true, decide_eq_true_eq] at g1
          conv => whnf
          refine Fork.intro (fun g => absurd (of_decide_eq_true g) (by omega)) (fun g => ?_)
          conv => whnf
          refine Fork.intro (fun g => absurd (of_decide_eq_true g) (by omega)) (fun g => ?_)
          conv => whnf
          cases g2 : decide (4095 < n) with
          | true =>
            rw [g2] at hnx
            have hnx : numQ l = -1 := by rw [hnx]; simp
            rw [hnx]
            refine Fork.intro (fun g => ?_) (fun g => absurd (of_decide_eq_false g) (by have := of_decide_eq_true g2; omega))
            conv => whnf
          | false =>
            rw [g2, show isDig x = true by unfold isDig; rw [decide_eq_true g1.1, decide_eq_true g1.2]; rfl] at hnx
            have g2 := of_decide_eq_false g2
            rw [numQ_ne hne] at hnx
            refine Fork.intro (fun g => absurd (of_decide_eq_true g) (by omega)) (fun g => ?_)
            conv => whnf
            have e : IntKind.i64.wrap (IntKind.i64.wrap ((n : Int) * 10) + IntKind.i64.wrap (IntKind.i32.wrap ((x : Int) - 48))) = ((n * 10 + (x - 48) : Nat) : Int) := by
              rw [IntWalk.i32_in _ (by omega), IntWalk.i64_in (_ - _) (by omega), IntWalk.i64_in (_ * _) (by omega), IntWalk.i64_in _ (by omega)]; omega
            rw [e]
            refine ⟨(k + 1, n * 10 + (x - 48)), [], [], ?_, ⟨hlt, by show n * 10 + (x - 48) ≤ 40959; omega, hnx⟩, by show l.length - (k + 1) < l.length - k; omega⟩
            repeat' (first | exact trivial | exact .inl (DLe.refl _) | exact .inl (DLe.nil _ _) | (refine .inr ⟨rfl, _, ?_, rfl⟩; rfl) | exact rfl | exact .inl rfl | exact .inr ⟨rfl, rfl, rfl, rfl⟩ | exact Nat.zero_le _ | constructor)
      · have hc := decode_high hl hx hx7 hd
        rw [show isDig x = false by unfold isDig; rw [decide_eq_false (show ¬ x ≤ 57 by omega)]; simp] at hnx
        rw [hnx]
        conv => whnf
        refine Fork.intro (fun g => absurd (of_decide_eq_true g) (by omega)) (fun g => ?_)
        conv => whnf
        refine Fork.intro (fun g => ?_) (fun g => absurd (of_decide_eq_false g) (by omega))
        conv => whnf
        rfl
    · rw [strB_size] at hge
      obtain rfl : k = l.length := by omega
      conv => whnf
      refine Fork.intro (fun h => ?_) (fun h => ?_)
      · have h0 := (str_is hl .nil h).1 rfl
        subst h0
        conv => whnf
        rfl
      · have h0 := (str_is hl .nil h).2 rfl
        rw [numQ_ne h0, hs, List.drop_length, numM]
        conv => whnf

/-! ### May -/
theorem eqD_key (lo hi : Nat) : eqD [u64N lo, u64N hi] [.v (.int .u64 0), .v (.int .u64 0)] = decide (lo = 0 ∧ hi = 0) := by
  simp only [eqD, Bool.and_true]
  rw [show decide (((lo : Nat) : Int) = 0) = decide (lo = 0) from decide_eq_decide.2 (by omega), show decide (((hi : Nat) : Int) = 0) = decide (hi = 0) from decide_eq_decide.2 (by omega)]
  by_cases h : lo = 0 <;> by_cases k : hi = 0 <;> simp [h, k]
theorem maySB_of {a : Stp} {b : Bool} (h : b = true ↔ MayS a) : b = maySB a := by
  unfold maySB
  by_cases k : MayS a
  · rw [decide_eq_true k, h.2 k]
  · rw [decide_eq_false k, Bool.eq_false_iff]; exact fun g => k (h.1 g)
theorem may1 (nic num : Int) (fr : List Nat) (lo hi : Nat) : MayS ⟨1, nic, num, fr, lo, hi⟩ ↔ (0 ≤ nic ∧ nic ≤ 1) ∧ num = 0 ∧ fr.length ≤ 1600 ∧ lo = 0 ∧ hi = 0 := by
  unfold MayS; dsimp only
  constructor
  · rintro ⟨_, h2, h3, h4, h5, h6, h7, h8⟩
    try have a5 := h5 (by decide)
    try have a6 := h6 (by decide)
    try have a7 := h7 (by decide)
    try have a8 := h8 (by decide)
    clear h5 h6 h7 h8
    omega
  · intro h
    exact ⟨by decide, by omega, by omega, by omega, fun hh => by omega, fun hh => by omega, fun hh => by omega, fun hh => by omega⟩
theorem may2 (nic num : Int) (fr : List Nat) (lo hi : Nat) : MayS ⟨2, nic, num, fr, lo, hi⟩ ↔ (0 ≤ nic ∧ nic ≤ 1) ∧ (0 ≤ num ∧ num ≤ 4095) ∧ fr.length = 0 ∧ lo = 0 ∧ hi = 0 := by
  unfold MayS; dsimp only
  constructor
  · rintro ⟨_, h2, h3, h4, h5, h6, h7, h8⟩
    try have a5 := h5 (by decide)
    try have a6 := h6 (by decide)
    try have a7 := h7 (by decide)
    try have a8 := h8 (by decide)
    clear h5 h6 h7 h8
    omega
  · intro h
    exact ⟨by decide, by omega, by omega, by omega, fun hh => by omega, fun hh => by omega, fun hh => by omega, fun hh => by omega⟩
theorem may3 (nic num : Int) (fr : List Nat) (lo hi : Nat) : MayS ⟨3, nic, num, fr, lo, hi⟩ ↔ (0 ≤ nic ∧ nic ≤ 1) ∧ (0 ≤ num ∧ num ≤ 4095) ∧ fr.length = 0 ∧ lo = 0 ∧ hi = 0 := by
  unfold MayS; dsimp only
  constructor
  · rintro ⟨_, h2, h3, h4, h5, h6, h7, h8⟩
    try have a5 := h5 (by decide)
    try have a6 := h6 (by decide)
    try have a7 := h7 (by decide)
    try have a8 := h8 (by decide)
    clear h5 h6 h7 h8
    omega
  · intro h
    exact ⟨by decide, by omega, by omega, by omega, fun hh => by omega, fun hh => by omega, fun hh => by omega, fun hh => by omega⟩
theorem may4 (nic num : Int) (fr : List Nat) (lo hi : Nat) : MayS ⟨4, nic, num, fr, lo, hi⟩ ↔ nic = 0 ∧ (0 ≤ num ∧ num ≤ 4095) ∧ fr.length = 0 ∧ lo = 0 ∧ hi = 0 := by
  unfold MayS; dsimp only
  constructor
  · rintro ⟨_, h2, h3, h4, h5, h6, h7, h8⟩
    try have a5 := h5 (by decide)
    try have a6 := h6 (by decide)
    try have a7 := h7 (by decide)
    try have a8 := h8 (by decide)
    clear h5 h6 h7 h8
    omega
  · intro h
    exact ⟨by decide, by omega, by omega, by omega, fun hh => by omega, fun hh => by omega, fun hh => by omega, fun hh => by omega⟩
theorem may5 (nic num : Int) (fr : List Nat) (lo hi : Nat) : MayS ⟨5, nic, num, fr, lo, hi⟩ ↔ nic = 0 ∧ num = 0 ∧ fr.length = 0 := by
  unfold MayS; dsimp only
  constructor
  · rintro ⟨_, h2, h3, h4, h5, h6, h7, h8⟩
    try have a5 := h5 (by decide)
    try have a6 := h6 (by decide)
    try have a7 := h7 (by decide)
    try have a8 := h8 (by decide)
    clear h5 h6 h7 h8
    omega
  · intro h
    exact ⟨by decide, by omega, by omega, by omega, fun hh => by omega, fun hh => by omega, fun hh => by omega, fun hh => by omega⟩
theorem may0 {kind : Int} (nic num : Int) (fr : List Nat) (lo hi : Nat) (h : ¬ (1 ≤ kind ∧ kind ≤ 5)) : ¬ MayS ⟨kind, nic, num, fr, lo, hi⟩ := fun g => h g.1
set_option maxHeartbeats 4000000 in
theorem mayP_fn (a : Stp) : Fn Tryz.prog 26 [.agg (stD a)] fun d => d = boolD (maySB a) := by
  refine fnOf [] Tryz.func26 rfl (by kernel_rfl) (Nat.le_of_ble_eq_true rfl) ?_
  obtain ⟨kind, nic, num, frame, lo, hi⟩ := a
  by_cases hk : 1 ≤ kind ∧ kind ≤ 5
  · rcases k5_cases hk with rfl | rfl | rfl | rfl | rfl
    all_goals
      conv => whnf
      iterate 8
        all_goals (first | (refine Fork.intro (fun _ => ?_) (fun _ => ?_) <;> conv => whnf) | (refine ⟨eqKeyOk, rfl, ?_⟩; conv => whnf) | skip)
      all_goals
        refine congrArg boolD (maySB_of ?_)
        simp only [List.map_cons, List.map_nil, eqD_key, decide_eq_true_eq, decide_eq_false_iff_not, may1, may2, may3, may4, may5, Bool.false_eq_true, false_iff] at *
        omega
  · have hno := may0 nic num frame lo hi hk
    conv => whnf
    iterate 12
      all_goals (first | (refine Fork.intro (fun _ => ?_) (fun _ => ?_) <;> conv => whnf) | (refine ⟨eqKeyOk, rfl, ?_⟩; conv => whnf) | skip)
    all_goals first | exact congrArg boolD (maySB_of ⟨fun h => (by cases h), fun h => absurd h hno⟩) | (exfalso; simp only [decide_eq_true_eq] at *; omega)
end Go.Proofs.YtbjhkhhbdlnfbaaGreatDoor.V
namespace Go.Proofs.YtbjhkhhbdlnfbaaGreatDoor.V
open Go.RowKit
attribute [local irreducible] Fn FnN OpVC

/-! ### Plain -/
theorem wrap_nx {n : Nat} (h : n ≤ 4000000000) : IntKind.i64.wrap ((n : Int) + 1) = ((n + 1 : Nat) : Int) := by rw [IntWalk.i64_in _ (by omega)]; omega
theorem hexT_take {l : List Nat} {k x : Nat} (h : l[k]? = some x) : hexT (l.take (k + 1)) = hexT (l.take k) ++ [hx (x / 16), hx (x % 16)] := by
  rw [List.take_add_one, h, hexT_append]; rfl
theorem figs_byt : Byt figs := byt_of rfl
theorem figs_get {n : Nat} (hn : n < 16) {b : UInt8} (hb : (strB figs)[n]? = some b) : b.toNat = hx n := by
  have h1 := strB_get figs_byt hb
  have h2 : ∀ n, n < 16 → figs[n]? = some (hx n) := by decide
  rw [h2 n hn] at h1
  injection h1 with h1
  exact h1.symm
theorem u8_low4 (x : Nat) (hx : x < 256) : IntKind.u8.wrap (((BitVec.ofInt IntKind.u8.bits (x : Int) &&& BitVec.ofInt IntKind.u8.bits 15).toNat : Nat) : Int) = ((x % 16 : Nat) : Int) := by
  have h : (BitVec.ofInt 8 (x : Int) &&& BitVec.ofInt 8 15).toNat = x &&& 15 := by
    rw [BitVec.toNat_and, BitVec.toNat_ofInt, BitVec.toNat_ofInt]
    congr 1; omega
  rw [show (BitVec.ofInt IntKind.u8.bits (x : Int) &&& BitVec.ofInt IntKind.u8.bits 15).toNat = x &&& 15 from h]
  rw [show x &&& 15 = x % 16 from Nat.and_two_pow_sub_one_eq_mod x 4]
  exact u8_small (by omega)
theorem u8_put (a n : Nat) (ha : a < 16) (hn : n < 16) : IntKind.u8.wrap (((BitVec.ofInt IntKind.u8.bits (IntKind.u8.wrap ((a : Int) * 2 ^ (min (4 : Int).toNat IntKind.u8.bits))) ||| BitVec.ofInt IntKind.u8.bits (n : Int)).toNat : Nat) : Int) = ((a * 16 + n : Nat) : Int) := by
  have e : IntKind.u8.wrap ((a : Int) * 2 ^ (min (4 : Int).toNat IntKind.u8.bits)) = ((a * 16 : Nat) : Int) := by
    show IntKind.u8.wrap ((a : Int) * 16) = _
    rw [u8_small (by omega)]; omega
  rw [e]
  have h : (BitVec.ofInt 8 ((a * 16 : Nat) : Int) ||| BitVec.ofInt 8 (n : Int)).toNat = a * 16 ||| n := by
    rw [BitVec.toNat_or, BitVec.toNat_ofInt, BitVec.toNat_ofInt]
    congr 1 <;> omega
  rw [show (BitVec.ofInt IntKind.u8.bits ((a * 16 : Nat) : Int) ||| BitVec.ofInt IntKind.u8.bits (n : Int)).toNat = a * 16 ||| n from h]
  rw [show a * 16 ||| n = a * 16 + n by
    have := Nat.two_pow_add_eq_or_of_lt (i := 4) (b := n) hn a
    rw [Nat.mul_comm] at this; exact this.symm]
  exact u8_small (by omega)
theorem u32_step (a n : Nat) (ha : a < 4294967296) (hn : n < 256) : IntKind.u32.wrap (((BitVec.ofInt IntKind.u32.bits (IntKind.u32.wrap ((a : Int) * 2 ^ (min (8 : Int).toNat IntKind.u32.bits))) ||| BitVec.ofInt IntKind.u32.bits (IntKind.u32.wrap (n : Int))).toNat : Nat) : Int) = (((a * 256 + n) % 4294967296 : Nat) : Int) := by
  have e : IntKind.u32.wrap ((a : Int) * 2 ^ (min (8 : Int).toNat IntKind.u32.bits)) = IntKind.u32.wrap (((a % 16777216 : Nat) : Int) * 2 ^ (min (8 : Int).toNat IntKind.u32.bits)) := by
    show IntKind.u32.wrap ((a : Int) * 256) = IntKind.u32.wrap (((a % 16777216 : Nat) : Int) * 256)
    rw [u32_wrap, u32_wrap]; omega
  rw [e, u32_small (n := (n : Int)) (by omega), u32_put _ n (Nat.mod_lt _ (by decide)) hn]
  congr 1; omega
theorem u64_put (a n : Nat) (ha : a < 4294967296) (hn : n < 4294967296) : IntKind.u64.wrap (((BitVec.ofInt IntKind.u64.bits (IntKind.u64.wrap (IntKind.u64.wrap (a : Int) * 2 ^ (min (32 : Int).toNat IntKind.u64.bits))) ||| BitVec.ofInt IntKind.u64.bits (IntKind.u64.wrap (n : Int))).toNat : Nat) : Int) = ((a * 4294967296 + n : Nat) : Int) := by
  have w64 : ∀ m : Int, IntKind.u64.wrap m = m % 18446744073709551616 := fun m => by rw [IntKind.wrap]; rfl
  have e1 : IntKind.u64.wrap (a : Int) = (a : Int) := by rw [w64]; omega
  have e2 : IntKind.u64.wrap (n : Int) = (n : Int) := by rw [w64]; omega
  have e : IntKind.u64.wrap ((a : Int) * 2 ^ (min (32 : Int).toNat IntKind.u64.bits)) = ((a * 4294967296 : Nat) : Int) := by
    show IntKind.u64.wrap ((a : Int) * 4294967296) = _
    rw [w64]; omega
  rw [e1, e2, e]
  have h : (BitVec.ofInt 64 ((a * 4294967296 : Nat) : Int) ||| BitVec.ofInt 64 (n : Int)).toNat = a * 4294967296 ||| n := by
    rw [BitVec.toNat_or, BitVec.toNat_ofInt, BitVec.toNat_ofInt]
    congr 1 <;> omega
  rw [show (BitVec.ofInt IntKind.u64.bits ((a * 4294967296 : Nat) : Int) ||| BitVec.ofInt IntKind.u64.bits (n : Int)).toNat = a * 4294967296 ||| n from h]
  rw [show a * 4294967296 ||| n = a * 4294967296 + n by
    have := Nat.two_pow_add_eq_or_of_lt (i := 32) (b := n) hn a
    rw [Nat.mul_comm] at this; exact this.symm]
  rw [w64]; omega
theorem unhexT_all : ∀ {s l : List Nat}, unhexT s = some l → ∀ c, c ∈ s → unhex c ≠ none
  | [], _, _ => fun c hc => by cases hc
  | [_], _, h => by rw [unhexT_one] at h; cases h
  | a :: b :: r, l, h => by
    rw [unhexT] at h
    split at h
    · rename_i x y hx hy
      split at h
      · rename_i l' hl
        intro c hc
        rcases List.mem_cons.1 hc with rfl | hc
        · rw [hx]; simp
        · rcases List.mem_cons.1 hc with rfl | hc
          · rw [hy]; simp
          · exact unhexT_all hl c hc
      · cases h
    · cases h
theorem unhexT_bad {s : List Nat} {c : Nat} (hc : c ∈ s) (h : unhex c = none) : unhexT s = none := by
  cases hq : unhexT s with
  | none => rfl
  | some l => exact absurd h (unhexT_all hq c hc)
theorem unhexT_snoc : ∀ {p P : List Nat} {a b x y : Nat}, unhexT p = some P → unhex a = some x → unhex b = some y → unhexT (p ++ [a, b]) = some (P ++ [x * 16 + y])
  | [], P, a, b, x, y, h, ha, hb => by
    rw [unhexT_nil] at h; injection h with h; subst h
    show unhexT [a, b] = _
    rw [unhexT, ha, hb, unhexT_nil]; rfl
  | [_], P, a, b, x, y, h, _, _ => by rw [unhexT_one] at h; cases h
  | u :: v :: r, P, a, b, x, y, h, ha, hb => by
    rw [unhexT] at h
    split at h
    · rename_i x' y' hx hy
      split at h
      · rename_i l' hl
        injection h with h; subst h
        show unhexT (u :: v :: (r ++ [a, b])) = _
        rw [unhexT, hx, hy, unhexT_snoc hl ha hb]; rfl
      · cases h
    · cases h
theorem unhexT_odd : ∀ {s : List Nat}, s.length % 2 = 1 → unhexT s = none
  | [], h => by simp at h
  | [_], _ => unhexT_one _
  | a :: b :: r, h => by
    rw [unhexT, unhexT_odd (s := r) (by simp only [List.length_cons] at h; omega)]
    split <;> rfl
def unhexE (s : List Nat) : Int := match unhexT s with
  | some _ => 0
  | none => 3
def UhAt (l : List Nat) (g : Nat × List Nat) : Prop := g.1 ≤ l.length ∧ ∃ j P, unhexT (l.take (2 * j)) = some P ∧ P.length = j ∧ ((g.1 = 2 * j ∧ g.2 = P ++ List.replicate (l.length / 2 - j) 0) ∨
  (g.1 = 2 * j + 1 ∧ ∃ c a, l[2 * j]? = some c ∧ unhex c = some a ∧ g.2 = P ++ a :: List.replicate (l.length / 2 - j - 1) 0))
theorem UhAt.len {l : List Nat} (he : l.length % 2 = 0) {g : Nat × List Nat} (h : UhAt l g) : g.2.length = l.length / 2 := by
  obtain ⟨h0, j, P, h1, h2, ⟨h3, h4⟩ | ⟨h3, c, a, h4, h5, h6⟩⟩ := h
  · rw [h4, List.length_append, List.length_replicate]; omega
  · have := (List.getElem?_eq_some_iff.1 h4).1
    rw [h6, List.length_append, List.length_cons, List.length_replicate]; omega
theorem UhAt.byt {l : List Nat} {g : Nat × List Nat} (h : UhAt l g) {i x : Nat} (hi : i = g.1 / 2) (hx : g.2[i]? = some x) (hlt : g.1 < l.length) (he : l.length % 2 = 0) {c a : Nat} (hc : l[g.1]? = some c) (ha : unhex c = some a) :
    x < 16 ∧ a < 16 ∧ UhAt l (g.1 + 1, g.2.set i (x * 16 + a)) := by
  obtain ⟨k, M⟩ := g
  have hb := (unhex_some ha).1
  obtain ⟨h0, j, P, h1, h2, ⟨h3, h4⟩ | ⟨h3, c', a', h4, h5, h6⟩⟩ := h
  · dsimp only at *
    subst h3 h4 hi
    have hj : 2 * j / 2 = j := by omega
    rw [hj] at hx ⊢
    have hr : l.length / 2 - j = (l.length / 2 - j - 1) + 1 := by omega
    rw [hr, List.replicate_succ] at hx ⊢
    rw [List.getElem?_append_right (by omega), h2, Nat.sub_self] at hx
    simp only [List.getElem?_cons_zero, Option.some.injEq] at hx
    subst hx
    refine ⟨by decide, hb, hlt, j, P, h1, h2, .inr ⟨rfl, c, a, hc, ha, ?_⟩⟩
    dsimp only
    rw [List.set_append_right _ _ (by omega), h2, Nat.sub_self, List.set_cons_zero, Nat.zero_mul, Nat.zero_add]
  · dsimp only at *
    subst h3 h6 hi
    have hj : (2 * j + 1) / 2 = j := by omega
    rw [hj] at hx ⊢
    rw [List.getElem?_append_right (by omega), h2, Nat.sub_self] at hx
    simp only [List.getElem?_cons_zero, Option.some.injEq] at hx
    subst hx
    have hb' := (unhex_some h5).1
    refine ⟨hb', hb, hlt, j + 1, P ++ [a' * 16 + a], ?_, by simp [h2], .inl ⟨by show 2 * j + 1 + 1 = _; omega, ?_⟩⟩
    · rw [show 2 * (j + 1) = 2 * j + 1 + 1 by omega, List.take_add_one, hc, List.take_add_one, h4, List.append_assoc]
      exact unhexT_snoc h1 h5 ha
    · dsimp only
      rw [List.set_append_right _ _ (by omega), h2, Nat.sub_self, List.set_cons_zero, List.append_assoc, show l.length / 2 - (j + 1) = l.length / 2 - j - 1 by omega]; rfl
theorem UhAt.done {l : List Nat} (he : l.length % 2 = 0) {M : List Nat} (h : UhAt l (l.length, M)) : unhexT l = some M := by
  obtain ⟨h0, j, P, h1, h2, ⟨h3, h4⟩ | ⟨h3, c, a, h4, h5, h6⟩⟩ := h
  · dsimp only at *
    rw [← h3, List.take_length] at h1
    rw [h1, h4, show l.length / 2 - j = 0 by omega, List.replicate_zero, List.append_nil]
  · dsimp only at h3; omega
theorem UhAt.start (l : List Nat) : UhAt l (0, List.replicate (l.length / 2) 0) := ⟨Nat.zero_le _, 0, [], unhexT_nil, rfl, .inl ⟨rfl, by rw [Nat.sub_zero]; rfl⟩⟩

/-! ### Hex, Unhex -/
set_option maxHeartbeats 1000000 in
theorem hexP_fn (l : List Nat) (hl : Byt l) (hlen : l.length ≤ 1000000) : Fn Tryz.prog 32 [rowsN l] fun d => d = strD (hexT l) := by
  refine fnOf [] Tryz.func32 rfl (by kernel_rfl) (Nat.le_of_ble_eq_true rfl) ?_
  have e2 : IntKind.i64.wrap (2 * (l.length : Int)) = ((2 * l.length : Nat) : Int) := by rw [IntWalk.i64_in _ (by omega)]; omega
  conv => whnf
  rw [e2]
  refine op_makeCap (l := 0) (c := 2 * l.length) (β := Nat) (enc := byN) (zz := 0) ttH rfl rfl rfl rfl rfl (by decide) rfl (Nat.zero_le _) ⟨by omega, by show _ * 1 ≤ _; omega⟩ rfl ?_
  conv => whnf
  refine ⟨Nat, fun k => ⟨[(12, intD k), (11, intD l.length), (10, rowsN l), (3, .grow 0)], [(0, .grow Nat 5 1 byN (hexT (l.take k)))], 1, ([], 0)⟩, fun k => k ≤ l.length, fun k => l.length - k, ⟨0, [], [], ?_, Nat.zero_le _⟩, ?_⟩
  · repeat' (first | exact trivial | exact .inl (DLe.refl _) | exact .inl (DLe.nil _ _) | (refine .inr ⟨rfl, _, ?_, rfl⟩; rfl) | exact rfl | exact .inl rfl | exact .inr ⟨rfl, rfl, rfl, rfl⟩ | exact Nat.zero_le _ | constructor)
  · intro k hk
    replace hk : k ≤ l.length := hk
    have e0 := wrap_nx (n := k) (by omega)
    conv => whnf
    refine Fork.intro (fun h1 => ?_) (fun h1 => ?_)
    · have h1 := of_decide_eq_true h1
      conv => whnf
      refine ⟨rfl, ⟨by omega, h1⟩, fun x hxx => ?_⟩
      have hxx : l[k]? = some x := hxx
      have hx256 := hl.get hxx
      have hnext := hexT_take hxx
      have hk2 := hexT_len (l.take k)
      have hk3 : (l.take k).length = k := by rw [List.length_take]; omega
      have e1 : (x : Int).fdiv (2 ^ (min (4 : Int).toNat IntKind.u8.bits)) = ((x / 16 : Nat) : Int) := shr_at x 4
      have e3 := u8_low4 x hx256
      conv => whnf
      refine ⟨by decide, ?_⟩
      conv => whnf
      rw [e1]
      conv => whnf
      refine ⟨⟨by omega, by rw [show (⟨#[48, 49, 50, 51, 52, 53, 54, 55, 56, 57, 97, 98, 99, 100, 101, 102]⟩ : ByteArray) = strB figs from rfl, strB_size]; show _ < ((16 : Nat) : Int); omega⟩, fun b hb => ?_⟩
      have hb : b.toNat = hx (x / 16) := figs_get (by omega) (show (strB figs)[x / 16]? = some b from hb)
      rw [hb]
      conv => whnf
      rw [e3]
      refine ⟨⟨by omega, by rw [show (⟨#[48, 49, 50, 51, 52, 53, 54, 55, 56, 57, 97, 98, 99, 100, 101, 102]⟩ : ByteArray) = strB figs from rfl, strB_size]; show _ < ((16 : Nat) : Int); omega⟩, fun b2 hb2 => ?_⟩
      have hb2 : b2.toNat = hx (x % 16) := figs_get (by omega) (show (strB figs)[x % 16]? = some b2 from hb2)
      rw [hb2]
      conv => whnf
      refine ⟨by decide, ?_⟩
      conv => whnf
      refine ⟨Nat, byN, hexT (l.take k) ++ [hx (x / 16), hx (x % 16)], (by rw [List.map_append]; rfl), fun _ => rfl, by simp; omega, by simp; omega, rfl, ?_⟩
      rw [← hnext]
      conv => whnf
      rw [e0]
      refine ⟨k + 1, [(0, 1)], [], ?_, by show k + 1 ≤ l.length; omega, by show l.length - (k + 1) < l.length - k; omega⟩
      repeat' (first | exact trivial | exact .inl (DLe.refl _) | exact .inl (DLe.nil _ _) | (refine .inr ⟨rfl, _, ?_, rfl⟩; rfl) | exact rfl | exact .inl rfl | exact .inr ⟨rfl, rfl, rfl, rfl⟩ | exact Nat.zero_le _ | constructor)
    · have h1 := of_decide_eq_false h1
      obtain rfl : k = l.length := by omega
      rw [List.take_length]
      conv => whnf
      refine op_bytesStr (L := (hexT l).map fun n : Nat => (n : Int)) ttH rfl rfl rfl rfl ?_ rfl ?_
      · exact congrArg some (by rw [List.map_map]; rfl)
      rw [bytesOf_str, List.map_map, show (hexT l).map (Int.toNat ∘ fun n : Nat => (n : Int)) = hexT l from (List.map_congr_left fun n _ => Int.toNat_natCast n).trans (List.map_id _)]
      conv => whnf

theorem dle_pair {a a' b : D} (h : DLe a a') : DLe (.tup [a, b]) (.tup [a', b]) := fun C v hr => by
  cases hr with
  | tup hs hh =>
    refine .tup hs fun j d u hd hu => ?_
    match j, hd with
    | 0, hd => injection hd with hd; subst hd; exact h _ _ (hh 0 _ u rfl hu)
    | 1, hd => injection hd with hd; subst hd; exact hh 1 _ u rfl hu
    | j + 2, hd => simp at hd
abbrev unhexD (s : List Nat) : D := .tup [rowsN (unhexL s), intD (unhexE s)]
theorem unhexD_no {s : List Nat} (h : unhexT s = none) : unhexD s = .tup [rowsN [], intD 3] := by unfold unhexD unhexL unhexE; rw [h]; rfl
theorem unhexD_ok {s M : List Nat} (h : unhexT s = some M) : unhexD s = .tup [rowsN M, intD 0] := by unfold unhexD unhexL unhexE; rw [h]; rfl
theorem ixD_some {c a : Nat} (h : unhex c = some a) : ixD c = a := by unfold ixD; rw [h]
theorem ixD_none {c : Nat} (h : unhex c = none) : ixD c = -1 := by unfold ixD; rw [h]
set_option maxHeartbeats 2000000 in
theorem unhex0_fn (s : List Nat) (hs : Byt s) (hlen : s.length ≤ 1000000) : Fn Tryz.prog 24 [strD s] fun d => DLe d (unhexD s) := by
  refine fnOf [] Tryz.func24 rfl (by kernel_rfl) (Nat.le_of_ble_eq_true rfl) ?_
  have hsz : ((strB s).size : Int) = (s.length : Int) := by rw [strB_size]
  have hmod : ((strB s).size : Int).tmod 2 = ((s.length % 2 : Nat) : Int) := by rw [hsz, Int.tmod_eq_emod_of_nonneg (by omega)]; omega
  have hdiv : IntKind.i64.wrap (((strB s).size : Int).tdiv 2) = ((s.length / 2 : Nat) : Int) := by rw [hsz, Int.tdiv_eq_ediv_of_nonneg (by omega), IntWalk.i64_in _ (by omega)]; omega
  conv => whnf
  refine ⟨by decide, ?_⟩
  conv => whnf
  rw [hmod]
  refine Fork.intro (fun h => ?_) (fun h => ?_)
  · have h : s.length % 2 = 1 := by
      have : ¬ ((s.length % 2 : Nat) : Int) = 0 := by simpa using h
      omega
    rw [unhexD_no (unhexT_odd h)]
    conv => whnf
    exact dle_pair (DLe.nil _ _)
  have he : s.length % 2 = 0 := by
    have : ((s.length % 2 : Nat) : Int) = 0 := by simpa using h
    omega
  clear h
  conv => whnf
  refine ⟨by decide, ?_⟩
  conv => whnf
  rw [hdiv]
  refine op_makeCap (l := s.length / 2) (c := s.length / 2) (β := Nat) (enc := byN) (zz := 0) ttH rfl rfl rfl rfl rfl (by decide) rfl (Nat.le_refl _) ⟨by omega, by show _ * 1 ≤ _; omega⟩ rfl ?_
  conv => whnf
  refine op_rangeStr ttH rfl rfl rfl ?_
  conv => whnf
  refine ⟨Nat × List Nat, fun g => ⟨[(17, .loc 1 0), (4, .grow 0)], [(1, strI (strB s) g.1), (0, .grow Nat 5 1 byN g.2)], 2, ([], 0)⟩,
    UhAt s, fun g => s.length - g.1, ⟨(0, List.replicate (s.length / 2) 0), [], [], ?_, UhAt.start s⟩, ?_⟩
  · repeat' (first | exact trivial | exact .inl (DLe.refl _) | exact .inl (DLe.nil _ _) | (refine .inr ⟨rfl, _, ?_, rfl⟩; rfl) | exact rfl | exact .inl rfl | exact .inr ⟨rfl, rfl, rfl, rfl⟩ | exact Nat.zero_le _ | constructor)
  rintro ⟨k, M⟩ hg
  have hk := hg.1
  have hM := hg.len he
  dsimp only at hk hM
  dsimp only
  conv => whnf
  refine op_nextStr rfl rfl rfl (fun c w hlt hd => ?_) (fun hge => ?_)
  · rw [strB_size] at hlt
    obtain ⟨x, hxx⟩ : ∃ x, s[k]? = some x := ⟨_, List.getElem?_eq_getElem hlt⟩
    have hx256 := hs.get hxx
    have hmem := List.mem_of_getElem? hxx
    by_cases hx7 : x < 128
    · rw [decode_low hs hxx hx7] at hd
      injection hd with hd1 hd2; subst hd1 hd2
      have hix := index_fn x hx256
      conv => whnf
      rw [u8_small (n := (x : Int)) (by omega)]
      conv => whnf
      refine CallVC.pure hix rfl ?_
      rintro _ rfl
      conv => whnf
      refine Fork.intro (fun g => absurd (of_decide_eq_true g) (by omega)) (fun g => ?_)
      clear g
      cases hu : unhex x with
      | none =>
        rw [ixD_none hu, unhexD_no (unhexT_bad hmem hu)]
        conv => whnf
        exact dle_pair (DLe.nil _ _)
      | some a =>
        have ha := (unhex_some hu).1
        rw [ixD_some hu]
        conv => whnf
        have ek : IntKind.i64.wrap ((k : Int).tdiv 2) = ((k / 2 : Nat) : Int) := by rw [Int.tdiv_eq_ediv_of_nonneg (by omega), IntWalk.i64_in _ (by omega)]; omega
        refine ⟨by decide, ?_⟩
        conv => whnf
        refine ⟨by decide, ?_⟩
        conv => whnf
        rw [ek]
        refine ⟨rfl, ⟨by omega, by omega⟩, ?_⟩
        conv => whnf
        refine ⟨rfl, by omega, fun y hy => ?_⟩
        have hy : M[k / 2]? = some y := hy
        obtain ⟨hy16, _, hnext⟩ := hg.byt (i := k / 2) rfl hy hlt he hxx hu
        have hput := u8_put y a hy16 ha
        conv => whnf
        refine ⟨by decide, ?_⟩
        conv => whnf
        rw [u8_small (n := (a : Int)) (by omega), hput]
        refine ⟨rfl, ⟨by omega, by omega⟩, ?_⟩
        conv => whnf
        refine ⟨rfl, by omega, fun y2 hy2 => ?_⟩
        have hy2 : M[k / 2]? = some y2 := hy2
        obtain rfl : y = y2 := Option.some.inj (hy.symm.trans hy2)
        refine ⟨rfl, y * 16 + a, rfl, ?_⟩
        conv => whnf
        refine ⟨(k + 1, M.set (k / 2) (y * 16 + a)), [], [], ?_, hnext, by show s.length - (k + 1) < s.length - k; omega⟩
        repeat' (first | exact trivial | exact .inl (DLe.refl _) | exact .inl (DLe.nil _ _) | (refine .inr ⟨rfl, _, ?_, rfl⟩; rfl) | exact rfl | exact .inl rfl | exact .inr ⟨rfl, rfl, rfl, rfl⟩ | exact Nat.zero_le _ | constructor)
    · have hc := decode_high hs hxx hx7 hd
      have hun : unhex x = none := by
        cases hq : unhex x with
        | none => rfl
        | some a => have := unhex_some hq; have := hx_lt this.1; omega
      rw [unhexD_no (unhexT_bad hmem hun)]
      have hix : ∀ m : Int, 0 ≤ m ∧ m < 256 → ∃ j, Fn Tryz.prog 47 [strD figs, .v (.int .u8 m)] fun d => d = .v (.int .i64 j) := fun m hm => ⟨_, by
        have := index_fn m.toNat (by omega)
        rw [show ((m.toNat : Nat) : Int) = m by omega] at this
        exact this⟩
      obtain ⟨j, hix⟩ := hix (IntKind.u8.wrap (c : Int)) (by rw [u8_wrap']; omega)
      conv => whnf
      refine CallVC.pure hix rfl ?_
      rintro _ rfl
      conv => whnf
      refine Fork.intro (fun g => ?_) (fun g => absurd (of_decide_eq_false g) (by omega))
      conv => whnf
      exact dle_pair (DLe.nil _ _)
  · rw [strB_size] at hge
    obtain rfl : k = s.length := by omega
    rw [unhexD_ok (hg.done he)]
    conv => whnf
    exact DLe.refl _
theorem unhex_fn (s : List Nat) (hs : Byt s) (hlen : s.length ≤ 1000000) : Fn Tryz.prog 24 [strD s] fun d => d = unhexD s := Fn.exact (unhex0_fn s hs hlen)

/-! ### Halves of a key -/
theorem there_fn (l : List Nat) (at_ n : Nat) (hl : l.length ≤ 1000000) (h1 : at_ ≤ 1000000) (h2 : n ≤ 1000000) : Fn Tryz.prog 71 [rowsN l, intD at_, intD n] fun d => d = boolD (decide (at_ + n ≤ l.length)) := by
  refine fnOf [] Tryz.func71 rfl (by kernel_rfl) (Nat.le_of_ble_eq_true rfl) ?_
  conv => whnf
  refine Fork.intro (fun g => ?_) (fun g => ?_)
  · have g := of_decide_eq_true g
    conv => whnf
    refine congrArg boolD (decide_eq_decide.2 ?_)
    rw [IntWalk.i64_in _ (by omega)]; omega
  · have g := of_decide_eq_false g
    conv => whnf
    exact congrArg boolD (decide_eq_false (by omega)).symm
def fold32 (l : List Nat) : Nat := l.foldl (fun n x => (n * 256 + x) % 4294967296) 0
theorem fold32_take {l : List Nat} {k x : Nat} (h : l[k]? = some x) : fold32 (l.take (k + 1)) = (fold32 (l.take k) * 256 + x) % 4294967296 := by
  unfold fold32
  rw [List.take_add_one, h]
  show List.foldl _ _ (l.take k ++ [x]) = _
  rw [List.foldl_append]; rfl
theorem fold32_lt (l : List Nat) : fold32 l < 4294967296 := fold_lt _ (by decide) (fun n x => n * 256 + x) _ 0 (by decide)
theorem octnum_fn (l : List Nat) (hl : Byt l) (hlen : l.length ≤ 1000000) : Fn Tryz.prog 72 [rowsN l] fun d => d = u32D (fold32 l) := by
  refine fnOf [] Tryz.func72 rfl (by kernel_rfl) (Nat.le_of_ble_eq_true rfl) ?_
  conv => whnf
  refine ⟨Nat, fun k => ⟨[(8, intD k), (7, intD l.length), (6, rowsN l), (3, u32D (fold32 (l.take k)))], [], 0, ([], 0)⟩, fun k => k ≤ l.length, fun k => l.length - k, ⟨0, [], [], ?_, Nat.zero_le _⟩, ?_⟩
  · repeat' (first | exact trivial | exact .inl (DLe.refl _) | exact .inl (DLe.nil _ _) | (refine .inr ⟨rfl, _, ?_, rfl⟩; rfl) | exact rfl | exact .inl rfl | exact .inr ⟨rfl, rfl, rfl, rfl⟩ | exact Nat.zero_le _ | constructor)
  intro k hk
  replace hk : k ≤ l.length := hk
  have e0 := wrap_nx (n := k) (by omega)
  conv => whnf
  refine Fork.intro (fun h1 => ?_) (fun h1 => ?_)
  · have h1 := of_decide_eq_true h1
    conv => whnf
    refine ⟨rfl, ⟨by omega, h1⟩, fun x hxx => ?_⟩
    have hxx : l[k]? = some x := hxx
    have hx256 := hl.get hxx
    have hn := fold32_take hxx
    have hs := u32_step (fold32 (l.take k)) x (fold32_lt _) hx256
    conv => whnf
    refine ⟨by decide, ?_⟩
    conv => whnf
    rw [hs, e0, ← hn]
    refine ⟨k + 1, [], [], ?_, by show k + 1 ≤ l.length; omega, by show l.length - (k + 1) < l.length - k; omega⟩
    repeat' (first | exact trivial | exact .inl (DLe.refl _) | exact .inl (DLe.nil _ _) | (refine .inr ⟨rfl, _, ?_, rfl⟩; rfl) | exact rfl | exact .inl rfl | exact .inr ⟨rfl, rfl, rfl, rfl⟩ | exact Nat.zero_le _ | constructor)
  · have h1 := of_decide_eq_false h1
    obtain rfl : k = l.length := by omega
    rw [List.take_length]
    conv => whnf
theorem be32_eq (l : List Nat) (at_ : Nat) : be32 l at_ = match decide (at_ + 4 ≤ l.length) with
  | true => fold32 ((l.drop at_).take 4)
  | false => 0 := rfl
theorem get32_fn (l : List Nat) (at_ : Nat) (hl : Byt l) (hlen : l.length ≤ 1000000) (h1 : at_ ≤ 1000) : Fn Tryz.prog 48 [rowsN l, intD at_] fun d => d = .tup [u32D (be32 l at_), boolD (decide (at_ + 4 ≤ l.length))] := by
  refine fnOf [] Tryz.func48 rfl (by kernel_rfl) (Nat.le_of_ble_eq_true rfl) ?_
  have ht := there_fn l at_ 4 hlen (by omega) (by decide)
  rw [be32_eq]
  conv => whnf
  refine CallVC.pure ht rfl ?_
  rintro _ rfl
  cases h : decide (at_ + 4 ≤ l.length) with
  | false =>
    conv => whnf
    rfl
  | true =>
    have h := of_decide_eq_true h
    have e : IntKind.i64.wrap ((at_ : Int) + 4) = ((at_ + 4 : Nat) : Int) := by rw [IntWalk.i64_in _ (by omega)]; omega
    have hnum := octnum_fn ((l.drop at_).take 4) (by
      intro c hc; exact hl c (List.mem_of_mem_drop (List.mem_of_mem_take hc))) (by rw [List.length_take]; omega)
    have ed : (l.take (at_ + 4)).drop at_ = (l.drop at_).take 4 := by rw [List.drop_take]; congr 1; omega
    conv => whnf
    rw [e]
    refine ⟨rfl, ⟨by omega, by omega, by omega⟩, ?_⟩
    rw [show (l.take (((at_ + 4 : Nat) : Int)).toNat).drop ((at_ : Int)).toNat = (l.drop at_).take 4 from ed]
    conv => whnf
    refine CallVC.pure hnum rfl ?_
    rintro _ rfl
    conv => whnf
    rfl
theorem key_fn (s : List Nat) (hs : Byt s) (hlen : s.length ≤ 1000000) : Fn Tryz.prog 25 [strD s] fun d => d = u64N (pKey s) := by
  refine fnOf [] Tryz.func25 rfl (by kernel_rfl) (Nat.le_of_ble_eq_true rfl) ?_
  have hu := unhex_fn s hs hlen
  obtain ⟨hb, hbl⟩ := unhexL_byt s
  have h1 := get32_fn (unhexL s) 0 hb (by omega) (by decide)
  have h2 := get32_fn (unhexL s) 4 hb (by omega) (by decide)
  have h3 := u64_put (be32 (unhexL s) 0) (be32 (unhexL s) 4) (be32_lt _ _) (be32_lt _ _)
  have hp : pKey s = be32 (unhexL s) 0 * 4294967296 + be32 (unhexL s) 4 := rfl
  rw [hp]
  generalize be32 (unhexL s) 0 = x at *
  generalize be32 (unhexL s) 4 = y at *
  unfold unhexD at hu
  generalize unhexL s = b at *
  conv => whnf
  refine CallVC.pure hu rfl ?_
  rintro _ rfl
  conv => whnf
  refine CallVC.pure h1 rfl ?_
  rintro _ rfl
  conv => whnf
  refine CallVC.pure h2 rfl ?_
  rintro _ rfl
  conv => whnf
  refine ⟨by decide, ?_⟩
  conv => whnf
  rw [h3]
theorem be4_wrap (x : Nat) (_ : x < 4294967296) : IntKind.u8.wrap ((x : Int).fdiv (2 ^ (min (24 : Int).toNat IntKind.u32.bits))) = ((x / 16777216 % 256 : Nat) : Int) ∧ IntKind.u8.wrap ((x : Int).fdiv (2 ^ (min (16 : Int).toNat IntKind.u32.bits))) = ((x / 65536 % 256 : Nat) : Int) ∧
    IntKind.u8.wrap ((x : Int).fdiv (2 ^ (min (8 : Int).toNat IntKind.u32.bits))) = ((x / 256 % 256 : Nat) : Int) ∧ IntKind.u8.wrap (x : Int) = ((x % 256 : Nat) : Int) := by
  refine ⟨?_, ?_, ?_, ?_⟩
  · rw [u8_wrap', show (x : Int).fdiv (2 ^ (min (24 : Int).toNat IntKind.u32.bits)) = ((x / 16777216 : Nat) : Int) from shr_at x 24]; omega
  · rw [u8_wrap', show (x : Int).fdiv (2 ^ (min (16 : Int).toNat IntKind.u32.bits)) = ((x / 65536 : Nat) : Int) from shr_at x 16]; omega
  · rw [u8_wrap', show (x : Int).fdiv (2 ^ (min (8 : Int).toNat IntKind.u32.bits)) = ((x / 256 : Nat) : Int) from shr_at x 8]; omega
  · rw [u8_wrap']; omega
theorem clone_nil {s : St} {K : D → St → Prop} (h : K (.v (.slice none 0 0)) s) : CallVC Tryz.prog false 73 [.v (.slice none 0 0)] s K := by
  refine goIn [] Tryz.func73 rfl (by kernel_rfl) (Nat.le_of_ble_eq_true rfl) ?_
  conv => whnf
  exact h
set_option maxHeartbeats 1000000 in
theorem put32N_fn (a b : Nat) (ha : a < 4294967296) (hb : b < 4294967296) : Fn Tryz.prog 50 [.v (.slice none 0 0), .lit 1 [[u32D a], [u32D b]]] fun d => d = rowsN (be4 a ++ be4 b) := by
  refine fnOf [] Tryz.func50 rfl (by kernel_rfl) (Nat.le_of_ble_eq_true rfl) ?_
  obtain ⟨a1, a2, a3, a4⟩ := be4_wrap a ha
  obtain ⟨b1, b2, b3, b4⟩ := be4_wrap b hb
  conv => whnf
  refine clone_nil ?_
  conv => whnf
  refine ⟨Nat, fun k => ⟨[(12, intD k), (11, intD 2), (10, .lit 1 [[u32D a], [u32D b]]), (5, .grow 0)], [(0, .grow Nat 5 1 byN (match k with | 0 => [] | 1 => be4 a | _ + 2 => be4 a ++ be4 b))], 1, ([], 0)⟩, fun k => k ≤ 2, fun k => 2 - k, ⟨0, [], [0], ?_, Nat.zero_le _⟩, ?_⟩
  · repeat' (first | exact trivial | exact .inl (DLe.refl _) | exact .inl (DLe.nil _ _) | (refine .inr ⟨rfl, _, ?_, rfl⟩; rfl) | exact rfl | exact .inl rfl | exact .inr ⟨rfl, rfl, rfl, rfl⟩ | exact Nat.zero_le _ | constructor)
  · intro k hk
    rcases (by have : k ≤ 2 := hk; omega : k = 0 ∨ k = 1 ∨ k = 2) with rfl | rfl | rfl
    · conv => whnf
      refine ⟨rfl, ?_⟩
      conv => whnf
      refine ⟨by decide, ?_⟩
      conv => whnf
      refine ⟨by decide, ?_⟩
      conv => whnf
      refine ⟨by decide, ?_⟩
      conv => whnf
      rw [a1, a2, a3, a4]
      (refine ⟨Nat.le_of_ble_eq_true rfl, ?_⟩; conv => whnf)
      refine ⟨Nat, byN, be4 a, rfl, fun _ => rfl, by simp [be4], by simp [be4], rfl, ?_⟩
      conv => whnf
      refine ⟨1, [(0, 1)], [], ?_, by decide, by decide⟩
      repeat' (first | exact trivial | exact .inl (DLe.refl _) | exact .inl (DLe.nil _ _) | (refine .inr ⟨rfl, _, ?_, rfl⟩; rfl) | exact rfl | exact .inl rfl | exact .inr ⟨rfl, rfl, rfl, rfl⟩ | exact Nat.zero_le _ | constructor)
    · conv => whnf
      refine ⟨rfl, ?_⟩
      conv => whnf
      refine ⟨by decide, ?_⟩
      conv => whnf
      refine ⟨by decide, ?_⟩
      conv => whnf
      refine ⟨by decide, ?_⟩
      conv => whnf
      rw [b1, b2, b3, b4]
      (refine ⟨Nat.le_of_ble_eq_true rfl, ?_⟩; conv => whnf)
      refine ⟨Nat, byN, be4 a ++ be4 b, rfl, fun _ => rfl, by simp [be4], by simp [be4], rfl, ?_⟩
      conv => whnf
      refine ⟨2, [(0, 1)], [], ?_, by decide, by decide⟩
      repeat' (first | exact trivial | exact .inl (DLe.refl _) | exact .inl (DLe.nil _ _) | (refine .inr ⟨rfl, _, ?_, rfl⟩; rfl) | exact rfl | exact .inl rfl | exact .inr ⟨rfl, rfl, rfl, rfl⟩ | exact Nat.zero_le _ | constructor)
    · conv => whnf
theorem half_fn (n : Nat) (hn : n < 18446744073709551616) : Fn Tryz.prog 33 [u64N n] fun d => d = strD (halfT n) := by
  refine fnOf [] Tryz.func33 rfl (by kernel_rfl) (Nat.le_of_ble_eq_true rfl) ?_
  have hp := put32N_fn (n / 4294967296) (n % 4294967296) (by omega) (Nat.mod_lt _ (by decide))
  have hh := hexP_fn (be8 n) (be8_byt n) (by show 4 + 4 ≤ _; decide)
  have e1 : IntKind.u32.wrap ((n : Int).fdiv (2 ^ (min (32 : Int).toNat IntKind.u64.bits))) = ((n / 4294967296 : Nat) : Int) := by
    rw [u32_wrap, show (n : Int).fdiv (2 ^ (min (32 : Int).toNat IntKind.u64.bits)) = ((n / 4294967296 : Nat) : Int) from shr_at n 32]; omega
  have e2 : IntKind.u32.wrap (n : Int) = ((n % 4294967296 : Nat) : Int) := by rw [u32_wrap]; omega
  conv => whnf
  refine ⟨by decide, ?_⟩
  conv => whnf
  rw [e1, e2]
  conv => whnf
  refine ⟨by decide, ?_⟩
  conv => whnf
  refine CallVC.pure hp rfl ?_
  rintro _ rfl
  conv => whnf
  refine CallVC.pure hh rfl ?_
  rintro _ rfl
  conv => whnf
  rfl
end Go.Proofs.YtbjhkhhbdlnfbaaGreatDoor.V
namespace Go.Proofs.YtbjhkhhbdlnfbaaGreatDoor.V
open Go.RowKit
attribute [local irreducible] Fn FnN OpVC

theorem join3 (a b c : List Nat) : joinN [32] [a, b, c] = a ++ 32 :: (b ++ 32 :: c) := by simp [joinN, List.intercalate]
theorem join2 (a b : List Nat) : joinN [32] [a, b] = a ++ 32 :: b := by simp [joinN, List.intercalate]
theorem join3_fn {a b c : List Nat} (ha : Byt a) (hb : Byt b) (hc : Byt c) (hl : a.length + b.length + c.length ≤ 100000) : FnN Tryz.prog 34 [rowsT [a, b, c], strD [32]] fun d => d = strD (a ++ 32 :: (b ++ 32 :: c)) := by
  have := join_c [a, b, c] [32] (fun x hx => by
    simp only [List.mem_cons, List.not_mem_nil, or_false] at hx
    rcases hx with rfl | rfl | rfl <;> assumption) (byt_of rfl) (by simp) (by rw [join3]; simp only [List.length_append, List.length_cons]; omega)
  rwa [join3] at this
theorem join2_fn {a b : List Nat} (ha : Byt a) (hb : Byt b) (hl : a.length + b.length ≤ 100000) : FnN Tryz.prog 34 [rowsT [a, b], strD [32]] fun d => d = strD (a ++ 32 :: b) := by
  have := join_c [a, b] [32] (fun x hx => by
    simp only [List.mem_cons, List.not_mem_nil, or_false] at hx
    rcases hx with rfl | rfl <;> assumption) (byt_of rfl) (by simp) (by rw [join2]; simp only [List.length_append, List.length_cons]; omega)
  rwa [join2] at this
theorem hexT_ne {l : List Nat} (h : l ≠ []) : hexT l ≠ [] := by
  cases l with
  | nil => exact absurd rfl h
  | cons x l => rw [hexT_cons]; simp
theorem frameT_cons {l : List Nat} (h : l ≠ []) : frameT l = hexT l := by
  unfold frameT
  rw [decide_eq_false (fun g => h (List.eq_nil_of_length_eq_zero g))]
set_option maxHeartbeats 4000000 in
theorem lineP_fn (a : Stp) (ok : a.ok) : Fn Tryz.prog 9 [.agg (stD a)] fun d => d = strD (lineS a) := by
  refine fnOf [(14, [0, 1, 2, 3, 5, 6, 7, 4, 8, 9, 10, 11])] Tryz.func9 rfl (by kernel_rfl) (Nat.le_of_ble_eq_true rfl) ?_
  have hm := mayP_fn a
  cases hmb : maySB a with
  | false =>
    rw [hmb] at hm
    have e : lineS a = [] := by unfold lineS; rw [hmb]
    rw [e]
    conv => whnf
    refine CallVC.pure hm rfl ?_
    rintro _ rfl
    conv => whnf
    rfl
  | true =>
  rw [hmb] at hm
  have may : MayS a := of_decide_eq_true hmb
  rw [lineS_may may]
  have hw := stWord_fn a.kind
  obtain ⟨kind, nic, num, frame, lo, hi⟩ := a
  have kf := ok.frame; have kl := ok.lo; have kh := ok.hi
  have hop := may.1
  have m2 := may.2.1; have m3 := may.2.2.1; have m4 := may.2.2.2.1
  dsimp only at *
  have hnic := digitsI_fn nic (by omega)
  have hnum := digitsI_fn num (by omega)
  have hhex := hexP_fn frame kf (by omega)
  have hlo := half_fn lo kl
  have hhi := half_fn hi kh
  have ln : (dgI nic).length ≤ 10 := dgs_len 9 nic.toNat (by omega)
  have lm : (dgI num).length ≤ 10 := dgs_len 9 num.toNat (by omega)
  have lf := frameT_len frame
  have bn := dgI_byt nic; have bm := dgI_byt num
  have bf := frameT_byt kf
  have bl := halfT_byt lo; have bh := halfT_byt hi
  have ll := halfT_len lo; have lh := halfT_len hi
  clear hmb may
  rcases k5_cases hop with rfl | rfl | rfl | rfl | rfl
  · have hj := join3_fn (a := wFrame) (byt_of rfl) bn bf (by show 5 + _ + _ ≤ _; omega)
    have hres : stN ⟨1, nic, num, frame, lo, hi⟩ = wFrame ++ 32 :: (dgI nic ++ 32 :: frameT frame) := rfl
    rw [hres]
    generalize wFrame ++ 32 :: (dgI nic ++ 32 :: frameT frame) = ln at *
    generalize dgI nic = di at *
    replace hw : Fn Tryz.prog 22 [intD 1] fun d => d = strD wFrame := hw
    conv => whnf
    refine CallVC.pure hm rfl ?_
    rintro _ rfl
    conv => whnf
    refine CallVC.pure hw rfl ?_
    rintro _ rfl
    conv => whnf
    refine ⟨by decide, ?_⟩
    conv => whnf
    refine CallVC.pure hnic rfl ?_
    rintro _ rfl
    conv => whnf
    refine ⟨by decide, ?_⟩
    conv => whnf
    refine op_appendLit (LL := [[strD wFrame]]) (new := [[strD di]]) (β := List Nat) (enc := strE) (L := [wFrame, di]) ttH rfl rfl rfl rfl rfl (by decide) rfl (by simp) rfl rfl rfl (Nat.le_of_ble_eq_true rfl) rfl (fun _ => rfl) (Nat.le_of_ble_eq_true rfl) (Nat.le_of_ble_eq_true rfl) ?_
    conv => whnf
    refine CallVC.pure hhex rfl ?_
    rintro _ rfl
    conv => whnf
    refine Fork.intro (fun h => ?_) (fun h => ?_)
    · have h0 := (str_is (hexT_byt kf) .nil h).1 rfl
      have hf : frame = [] := by
        cases frame with
        | nil => rfl
        | cons x l => exact absurd h0 (hexT_ne (by simp))
      subst hf
      rw [show frameT [] = [45] from rfl] at hj
      conv => whnf
      refine ⟨by decide, ?_⟩
      conv => whnf
      refine ⟨List Nat, strE, [wFrame, di, [45]], rfl, fun _ => rfl, Nat.le_of_ble_eq_true rfl, Nat.le_of_ble_eq_true rfl, rfl, ?_⟩
      conv => whnf
      refine CallVC.look hj rfl ?_
      rintro _ rfl
      conv => whnf
    · have h0 := (str_is (hexT_byt kf) .nil h).2 rfl
      have hf : frame ≠ [] := fun e => h0 (by rw [e]; rfl)
      rw [frameT_cons hf] at hj
      generalize hexT frame = hf2 at *
      conv => whnf
      refine ⟨by decide, ?_⟩
      conv => whnf
      refine ⟨List Nat, strE, [wFrame, di, hf2], rfl, fun _ => rfl, Nat.le_of_ble_eq_true rfl, Nat.le_of_ble_eq_true rfl, rfl, ?_⟩
      conv => whnf
      refine CallVC.look hj rfl ?_
      rintro _ rfl
      conv => whnf
  · have hj := join3_fn (a := wPoll) (byt_of rfl) bn bm (by show 4 + _ + _ ≤ _; omega)
    have hres : stN ⟨2, nic, num, frame, lo, hi⟩ = wPoll ++ 32 :: (dgI nic ++ 32 :: dgI num) := rfl
    rw [hres]
    generalize wPoll ++ 32 :: (dgI nic ++ 32 :: dgI num) = ln at *
    generalize dgI nic = di at *
    generalize dgI num = dn at *
    replace hw : Fn Tryz.prog 22 [intD 2] fun d => d = strD wPoll := hw
    conv => whnf
    refine CallVC.pure hm rfl ?_
    rintro _ rfl
    conv => whnf
    refine CallVC.pure hw rfl ?_
    rintro _ rfl
    conv => whnf
    refine ⟨by decide, ?_⟩
    conv => whnf
    refine CallVC.pure hnic rfl ?_
    rintro _ rfl
    conv => whnf
    refine ⟨by decide, ?_⟩
    conv => whnf
    refine op_appendLit (LL := [[strD wPoll]]) (new := [[strD di]]) (β := List Nat) (enc := strE) (L := [wPoll, di]) ttH rfl rfl rfl rfl rfl (by decide) rfl (by simp) rfl rfl rfl (Nat.le_of_ble_eq_true rfl) rfl (fun _ => rfl) (Nat.le_of_ble_eq_true rfl) (Nat.le_of_ble_eq_true rfl) ?_
    conv => whnf
    refine CallVC.pure hnum rfl ?_
    rintro _ rfl
    conv => whnf
    refine ⟨by decide, ?_⟩
    conv => whnf
    refine ⟨List Nat, strE, [wPoll, di, dn], rfl, fun _ => rfl, Nat.le_of_ble_eq_true rfl, Nat.le_of_ble_eq_true rfl, rfl, ?_⟩
    conv => whnf
    refine CallVC.look hj rfl ?_
    rintro _ rfl
    conv => whnf
  · have hj := join3_fn (a := wDone) (byt_of rfl) bn bm (by show 4 + _ + _ ≤ _; omega)
    have hres : stN ⟨3, nic, num, frame, lo, hi⟩ = wDone ++ 32 :: (dgI nic ++ 32 :: dgI num) := rfl
    rw [hres]
    generalize wDone ++ 32 :: (dgI nic ++ 32 :: dgI num) = ln at *
    generalize dgI nic = di at *
    generalize dgI num = dn at *
    replace hw : Fn Tryz.prog 22 [intD 3] fun d => d = strD wDone := hw
    conv => whnf
    refine CallVC.pure hm rfl ?_
    rintro _ rfl
    conv => whnf
    refine CallVC.pure hw rfl ?_
    rintro _ rfl
    conv => whnf
    refine ⟨by decide, ?_⟩
    conv => whnf
    refine CallVC.pure hnic rfl ?_
    rintro _ rfl
    conv => whnf
    refine ⟨by decide, ?_⟩
    conv => whnf
    refine op_appendLit (LL := [[strD wDone]]) (new := [[strD di]]) (β := List Nat) (enc := strE) (L := [wDone, di]) ttH rfl rfl rfl rfl rfl (by decide) rfl (by simp) rfl rfl rfl (Nat.le_of_ble_eq_true rfl) rfl (fun _ => rfl) (Nat.le_of_ble_eq_true rfl) (Nat.le_of_ble_eq_true rfl) ?_
    conv => whnf
    refine CallVC.pure hnum rfl ?_
    rintro _ rfl
    conv => whnf
    refine ⟨by decide, ?_⟩
    conv => whnf
    refine ⟨List Nat, strE, [wDone, di, dn], rfl, fun _ => rfl, Nat.le_of_ble_eq_true rfl, Nat.le_of_ble_eq_true rfl, rfl, ?_⟩
    conv => whnf
    refine CallVC.look hj rfl ?_
    rintro _ rfl
    conv => whnf
  · have hj := join2_fn (a := wTick) (byt_of rfl) bm (by show 4 + _ ≤ _; omega)
    have hres : stN ⟨4, nic, num, frame, lo, hi⟩ = wTick ++ 32 :: dgI num := rfl
    rw [hres]
    generalize wTick ++ 32 :: dgI num = ln at *
    generalize dgI num = dn at *
    replace hw : Fn Tryz.prog 22 [intD 4] fun d => d = strD wTick := hw
    conv => whnf
    refine CallVC.pure hm rfl ?_
    rintro _ rfl
    conv => whnf
    refine CallVC.pure hw rfl ?_
    rintro _ rfl
    conv => whnf
    refine ⟨by decide, ?_⟩
    conv => whnf
    refine CallVC.pure hnum rfl ?_
    rintro _ rfl
    conv => whnf
    refine ⟨by decide, ?_⟩
    conv => whnf
    refine op_appendLit (LL := [[strD wTick]]) (new := [[strD dn]]) (β := List Nat) (enc := strE) (L := [wTick, dn]) ttH rfl rfl rfl rfl rfl (by decide) rfl (by simp) rfl rfl rfl (Nat.le_of_ble_eq_true rfl) rfl (fun _ => rfl) (Nat.le_of_ble_eq_true rfl) (Nat.le_of_ble_eq_true rfl) ?_
    conv => whnf
    refine CallVC.look hj rfl ?_
    rintro _ rfl
    conv => whnf
  · have hj := join3_fn (a := wSecret) (byt_of rfl) bl bh (by show 6 + _ + _ ≤ _; omega)
    have hres : stN ⟨5, nic, num, frame, lo, hi⟩ = wSecret ++ 32 :: (halfT lo ++ 32 :: halfT hi) := rfl
    rw [hres]
    generalize wSecret ++ 32 :: (halfT lo ++ 32 :: halfT hi) = ln at *
    generalize halfT lo = tl at *
    generalize halfT hi = th at *
    replace hw : Fn Tryz.prog 22 [intD 5] fun d => d = strD wSecret := hw
    conv => whnf
    refine CallVC.pure hm rfl ?_
    rintro _ rfl
    conv => whnf
    refine CallVC.pure hw rfl ?_
    rintro _ rfl
    conv => whnf
    refine ⟨by decide, ?_⟩
    conv => whnf
    refine CallVC.pure hlo rfl ?_
    rintro _ rfl
    conv => whnf
    refine CallVC.pure hhi rfl ?_
    rintro _ rfl
    conv => whnf
    refine ⟨by decide, ?_⟩
    conv => whnf
    refine op_appendLit (LL := [[strD wSecret]]) (new := [[strD tl], [strD th]]) (β := List Nat) (enc := strE) (L := [wSecret, tl, th]) ttH rfl rfl rfl rfl rfl (by decide) rfl (by simp) rfl rfl rfl (Nat.le_of_ble_eq_true rfl) rfl (fun _ => rfl) (Nat.le_of_ble_eq_true rfl) (Nat.le_of_ble_eq_true rfl) ?_
    conv => whnf
    refine CallVC.look hj rfl ?_
    rintro _ rfl
    conv => whnf
end Go.Proofs.YtbjhkhhbdlnfbaaGreatDoor.V
namespace Go.Proofs.YtbjhkhhbdlnfbaaGreatDoor.V
open Go.RowKit
attribute [local irreducible] Fn FnN OpVC

theorem wd_at {s : List Nat} {i : Nat} (h : i < 3) {x : List Nat} (hx : (spl 32 s ++ [[], []])[i]? = some x) : x = wd s i := by
  unfold wd
  rw [List.getD_eq_getElem?_getD]
  by_cases hi : i < (spl 32 s).length
  · rw [List.getElem?_append_left hi] at hx
    rw [hx]; rfl
  · rw [List.getElem?_append_right (by omega)] at hx
    rw [List.getElem?_eq_none (by omega)]
    have : x ∈ ([[], []] : List (List Nat)) := List.mem_of_getElem? hx
    simpa using this
theorem wd_byt {s : List Nat} (hs : Byt s) (i : Nat) : Byt (wd s i) := by
  unfold wd
  rw [List.getD_eq_getElem?_getD]
  cases hq : (spl 32 s)[i]? with
  | none => exact .nil
  | some x => exact splB_byt hs (List.mem_of_getElem? hq)
theorem wd_len (s : List Nat) (i : Nat) : (wd s i).length ≤ s.length := by
  unfold wd
  rw [List.getD_eq_getElem?_getD]
  cases hq : (spl 32 s)[i]? with
  | none => simp
  | some x => exact (splB_mem _ s x (List.mem_of_getElem? hq)).1
abbrev stF (fr : D) (a : Stp) : List D := [intD a.kind, intD a.nic, intD a.num, fr, u64N a.lo, u64N a.hi]
theorem dle_stF {fr : D} {a : Stp} (h : DLe fr (rowsN a.frame)) : DLe (.agg (stF fr a)) (.agg (stD a)) := fun C v hr => by
  cases hr with
  | agg hs hh =>
    refine .agg hs fun j d u hd hu => ?_
    match j, hd with
    | 0, hd => exact hh 0 d u hd hu
    | 1, hd => exact hh 1 d u hd hu
    | 2, hd => exact hh 2 d u hd hu
    | 3, hd => injection hd with hd; subst hd; exact h _ _ (hh 3 _ u rfl hu)
    | 4, hd => exact hh 4 d u hd hu
    | 5, hd => exact hh 5 d u hd hu
    | n + 6, hd => simp [stD] at hd
theorem reps_one {C : Ctx} {d d' : D} {vs : List Value} (h : DLe d d') (hr : reps C [d] vs) : reps C [d'] vs := by
  refine ⟨hr.1, fun j x u hx hu => ?_⟩
  match j, hx with
  | 0, hx => injection hx with hx; subst hx; exact h _ _ (hr.2 0 d u rfl hu)
  | j + 1, hx => simp at hx
theorem mayF_fn {fr : D} (a : Stp) (h : DLe fr (rowsN a.frame)) : Fn Tryz.prog 26 [.agg (stF fr a)] fun d => d = boolD (maySB a) := (mayP_fn a).le fun _ _ hr => reps_one (dle_stF h) hr
theorem lineF_fn {fr : D} (a : Stp) (ok : a.ok) (h : DLe fr (rowsN a.frame)) : Fn Tryz.prog 9 [.agg (stF fr a)] fun d => d = strD (lineS a) := (lineP_fn a ok).le fun _ _ hr => reps_one (dle_stF h) hr
abbrev readD (r : Stp × Int) : D := .tup [.agg (stD r.1), intD r.2]
theorem dle_nilN : DLe (.v (.slice none 0 0)) (rowsN []) := DLe.nil _ _
theorem dle_zero : DLe (.agg [intD 0, intD 0, intD 0, .v (.slice none 0 0), .v (.int .u64 0), .v (.int .u64 0)]) (.agg (stD zeroS)) := dle_stF (a := zeroS) dle_nilN
theorem pReadS_of {s : List Nat} {n : Int} (h : kindAt (wd s 0) 5 = n) : pReadS s = match maySB (pStpAt s n) && decide (lineS (pStpAt s n) = s) with
    | true => (pStpAt s n, 0)
    | false => (zeroS, 3) := by
  unfold pReadS pStp; rw [h]; rfl
attribute [local irreducible] DLe
set_option maxHeartbeats 8000000 in
theorem pread0_fn (s : List Nat) (hs : Byt s) (hl : s.length ≤ 1000000) : Fn Tryz.prog 7 [strD s] fun d => DLe d (readD (pReadS s)) := by
  refine fnOf [(14, [0, 1, 2, 4, 5, 6, 3, 8, 7, 9, 10, 11]), (18, [0, 1, 2, 4, 5, 6, 3, 7, 8, 9, 10])] Tryz.func7 rfl (by kernel_rfl) (Nat.le_of_ble_eq_true rfl) ?_
  have hsl : (spl 32 s).length ≤ s.length + 1 := splB_len _ s
  have hs0 : 0 < (spl 32 s).length := Nat.pos_of_ne_zero fun h => splB_ne _ s (List.eq_nil_of_length_eq_zero h)
  have hwb := wd_byt hs
  have hwl := wd_len s
  generalize hL0 : spl 32 s ++ [[], []] = LL
  have hat : ∀ i, i < 3 → ∀ x, LL[i]? = some x → x = wd s i := fun i hi x hx => by subst hL0; exact wd_at hi hx
  have hLL : LL.length = (spl 32 s).length + 2 := by rw [← hL0, List.length_append]; rfl
  have hL : ∀ i : Nat, i < 3 → (i : Int) < (LL.length : Int) := fun i hi => by omega
  have hN : ∀ i : Nat, i < 3 → i < LL.length := fun i hi => by omega
  have hmap : LL.map strE = (spl 32 s).map strE ++ [[strD []], [strD []]] := by rw [← hL0, List.map_append]; rfl
  clear hL0
  conv => whnf
  refine split_vc (c := 32) s hs hl (by decide) ?_
  conv => whnf
  refine ⟨by decide, ?_⟩
  conv => whnf
  refine ⟨List Nat, strE, LL, hmap, fun _ => rfl, by omega, by show LL.length * 16 ≤ _; omega, rfl, ?_⟩
  conv => whnf
  refine ⟨Nat, fun k => ⟨[(6, intD (k + 1 : Nat)), (5, .loc 2 0), (4, .grow 1), (2, .loc 0 0), (0, strD s)], [(0, .cells 27 [intD 0, intD 0, intD 0, .v (.slice none 0 0), .v (.int .u64 0), .v (.int .u64 0)]), (1, .grow (List Nat) 9 1 strE LL),
      (2, .cells 27 [intD (kindAt (wd s 0) k), intD 0, intD 0, .v (.slice none 0 0), .v (.int .u64 0), .v (.int .u64 0)])], 3, ([], 0)⟩, fun k => k ≤ 5, fun k => 5 - k, ⟨0, [(1, 2), (2, 3)], [], ?_, by decide⟩, ?_⟩
  · repeat' (first | exact trivial | exact .inl (DLe.refl _) | exact .inl (DLe.nil _ _) | (refine .inr ⟨rfl, _, ?_, rfl⟩; rfl) | exact rfl | exact .inl rfl | exact .inr ⟨rfl, rfl, rfl, rfl⟩ | exact Nat.zero_le _ | constructor)
  intro k hk
  replace hk : k ≤ 5 := hk
  have e0 := wrap_nx (n := k + 1) (by omega)
  conv => whnf
  refine Fork.intro (fun h1 => ?_) (fun h1 => ?_)
  · have h1 := of_decide_eq_true h1
    have hka : kindAt (wd s 0) (k + 1) = match decide (wd s 0 = stW ((k + 1 : Nat) : Int)) with
      | true => ((k + 1 : Nat) : Int)
      | false => kindAt (wd s 0) k := rfl
    conv => whnf
    refine ⟨rfl, ⟨by decide, hL 0 (by decide)⟩, ?_⟩
    conv => whnf
    refine ⟨rfl, hN 0 (by decide), fun x hx => ?_⟩
    obtain rfl := hat 0 (by decide) x hx
    clear hx
    conv => whnf
    refine CallVC.pure (stWord_fn ((k + 1 : Nat) : Int)) rfl ?_
    rintro _ rfl
    conv => whnf
    refine Fork.intro (fun h2 => ?_) (fun h2 => ?_)
    · have h2 := (str_is (hwb 0) (stW_byt _) h2).1 rfl
      rw [decide_eq_true h2] at hka
      replace hka : kindAt (wd s 0) (k + 1) = ((k + 1 : Nat) : Int) := hka
      conv => whnf
      rw [e0]
      refine ⟨k + 1, [], [], ?_, by show k + 1 ≤ 5; omega, by show 5 - (k + 1) < 5 - k; omega⟩
      dsimp only
      rw [hka]
      repeat' (first | exact trivial | exact .inl (DLe.refl _) | exact .inl (DLe.nil _ _) | (refine .inr ⟨rfl, _, ?_, rfl⟩; rfl) | exact rfl | exact .inl rfl | exact .inr ⟨rfl, rfl, rfl, rfl⟩ | exact Nat.zero_le _ | constructor)
    · have h2 := (str_is (hwb 0) (stW_byt _) h2).2 rfl
      rw [decide_eq_false h2] at hka
      replace hka : kindAt (wd s 0) (k + 1) = kindAt (wd s 0) k := hka
      conv => whnf
      rw [e0]
      refine ⟨k + 1, [], [], ?_, by show k + 1 ≤ 5; omega, by show 5 - (k + 1) < 5 - k; omega⟩
      dsimp only
      rw [hka]
      repeat' (first | exact trivial | exact .inl (DLe.refl _) | exact .inl (DLe.nil _ _) | (refine .inr ⟨rfl, _, ?_, rfl⟩; rfl) | exact rfl | exact .inl rfl | exact .inr ⟨rfl, rfl, rfl, rfl⟩ | exact Nat.zero_le _ | constructor)
  have h1 := of_decide_eq_false h1
  obtain rfl : k = 5 := by omega
  clear h1 e0 hk
  have hfl := kindAt_le (wd s 0) 5
  generalize hop : kindAt (wd s 0) 5 = op at hfl
  have hr := pReadS_of hop
  have hok := pStpAt_ok s op hfl
  have hopc : op = 0 ∨ op = 1 ∨ op = 2 ∨ op = 3 ∨ op = 4 ∨ op = 5 := by omega
  have hlby := lineS_byt hok
  clear hop hfl
  rcases hopc with rfl | rfl | rfl | rfl | rfl | rfl
  · have hdl : DLe (.v (.slice none 0 0)) (rowsN (pStpAt s 0).frame) := dle_nilN
    have hmay := mayF_fn (pStpAt s 0) hdl
    have hlin := lineF_fn (pStpAt s 0) hok hdl
    have hfin := dle_stF hdl
    conv => whnf
    refine CallVC.pure hmay rfl ?_
    rintro _ rfl
    cases hm : maySB (pStpAt s 0) with
    | false =>
      rw [hm] at hr
      rw [hr]
      conv => whnf
      exact dle_pair dle_zero
    | true =>
      rw [hm] at hr
      conv => whnf
      refine CallVC.pure hlin rfl ?_
      rintro _ rfl
      conv => whnf
      refine Fork.intro (fun h => ?_) (fun h => ?_)
      · have h2 : lineS (pStpAt s 0) ≠ s := (str_ne hlby hs h).1 rfl
        rw [decide_eq_false h2] at hr
        rw [hr]
        conv => whnf
        exact dle_pair dle_zero
      · have h2 : lineS (pStpAt s 0) = s := (str_ne hlby hs h).2 rfl
        rw [decide_eq_true h2] at hr
        rw [hr]
        conv => whnf
        exact dle_pair hfin
  · have hdl : DLe (rowsN (unhexL (wd s 2))) (rowsN (pStpAt s 1).frame) := DLe.refl _
    have hmay := mayF_fn (pStpAt s 1) hdl
    have hlin := lineF_fn (pStpAt s 1) hok hdl
    have hfin := dle_stF hdl
    conv => whnf
    refine ⟨rfl, ⟨by decide, hL 1 (by decide)⟩, ?_⟩
    conv => whnf
    refine ⟨rfl, hN 1 (by decide), fun x hx => ?_⟩
    obtain rfl := hat 1 (by decide) x hx
    clear hx
    conv => whnf
    refine CallVC.pure (number_fnP _ (hwb 1)) rfl ?_
    rintro _ rfl
    conv => whnf
    refine ⟨rfl, ⟨by decide, hL 2 (by decide)⟩, ?_⟩
    conv => whnf
    refine ⟨rfl, hN 2 (by decide), fun x hx => ?_⟩
    obtain rfl := hat 2 (by decide) x hx
    clear hx
    conv => whnf
    refine CallVC.pure (unhex_fn _ (hwb 2) (by have := hwl 2; omega)) rfl ?_
    rintro _ rfl
    conv => whnf
    refine CallVC.pure hmay rfl ?_
    rintro _ rfl
    cases hm : maySB (pStpAt s 1) with
    | false =>
      rw [hm] at hr
      rw [hr]
      conv => whnf
      exact dle_pair dle_zero
    | true =>
      rw [hm] at hr
      conv => whnf
      refine CallVC.pure hlin rfl ?_
      rintro _ rfl
      conv => whnf
      refine Fork.intro (fun h => ?_) (fun h => ?_)
      · have h2 : lineS (pStpAt s 1) ≠ s := (str_ne hlby hs h).1 rfl
        rw [decide_eq_false h2] at hr
        rw [hr]
        conv => whnf
        exact dle_pair dle_zero
      · have h2 : lineS (pStpAt s 1) = s := (str_ne hlby hs h).2 rfl
        rw [decide_eq_true h2] at hr
        rw [hr]
        conv => whnf
        exact dle_pair hfin
  · have hdl : DLe (.v (.slice none 0 0)) (rowsN (pStpAt s 2).frame) := dle_nilN
    have hmay := mayF_fn (pStpAt s 2) hdl
    have hlin := lineF_fn (pStpAt s 2) hok hdl
    have hfin := dle_stF hdl
    conv => whnf
    refine ⟨rfl, ⟨by decide, hL 1 (by decide)⟩, ?_⟩
    conv => whnf
    refine ⟨rfl, hN 1 (by decide), fun x hx => ?_⟩
    obtain rfl := hat 1 (by decide) x hx
    clear hx
    conv => whnf
    refine ⟨rfl, ⟨by decide, hL 2 (by decide)⟩, ?_⟩
    conv => whnf
    refine ⟨rfl, hN 2 (by decide), fun x hx => ?_⟩
    obtain rfl := hat 2 (by decide) x hx
    clear hx
    conv => whnf
    refine CallVC.pure (number_fnP _ (hwb 1)) rfl ?_
    rintro _ rfl
    conv => whnf
    refine CallVC.pure (number_fnP _ (hwb 2)) rfl ?_
    rintro _ rfl
    conv => whnf
    refine CallVC.pure hmay rfl ?_
    rintro _ rfl
    cases hm : maySB (pStpAt s 2) with
    | false =>
      rw [hm] at hr
      rw [hr]
      conv => whnf
      exact dle_pair dle_zero
    | true =>
      rw [hm] at hr
      conv => whnf
      refine CallVC.pure hlin rfl ?_
      rintro _ rfl
      conv => whnf
      refine Fork.intro (fun h => ?_) (fun h => ?_)
      · have h2 : lineS (pStpAt s 2) ≠ s := (str_ne hlby hs h).1 rfl
        rw [decide_eq_false h2] at hr
        rw [hr]
        conv => whnf
        exact dle_pair dle_zero
      · have h2 : lineS (pStpAt s 2) = s := (str_ne hlby hs h).2 rfl
        rw [decide_eq_true h2] at hr
        rw [hr]
        conv => whnf
        exact dle_pair hfin
  · have hdl : DLe (.v (.slice none 0 0)) (rowsN (pStpAt s 3).frame) := dle_nilN
    have hmay := mayF_fn (pStpAt s 3) hdl
    have hlin := lineF_fn (pStpAt s 3) hok hdl
    have hfin := dle_stF hdl
    conv => whnf
    refine ⟨rfl, ⟨by decide, hL 1 (by decide)⟩, ?_⟩
    conv => whnf
    refine ⟨rfl, hN 1 (by decide), fun x hx => ?_⟩
    obtain rfl := hat 1 (by decide) x hx
    clear hx
    conv => whnf
    refine ⟨rfl, ⟨by decide, hL 2 (by decide)⟩, ?_⟩
    conv => whnf
    refine ⟨rfl, hN 2 (by decide), fun x hx => ?_⟩
    obtain rfl := hat 2 (by decide) x hx
    clear hx
    conv => whnf
    refine CallVC.pure (number_fnP _ (hwb 1)) rfl ?_
    rintro _ rfl
    conv => whnf
    refine CallVC.pure (number_fnP _ (hwb 2)) rfl ?_
    rintro _ rfl
    conv => whnf
    refine CallVC.pure hmay rfl ?_
    rintro _ rfl
    cases hm : maySB (pStpAt s 3) with
    | false =>
      rw [hm] at hr
      rw [hr]
      conv => whnf
      exact dle_pair dle_zero
    | true =>
      rw [hm] at hr
      conv => whnf
      refine CallVC.pure hlin rfl ?_
      rintro _ rfl
      conv => whnf
      refine Fork.intro (fun h => ?_) (fun h => ?_)
      · have h2 : lineS (pStpAt s 3) ≠ s := (str_ne hlby hs h).1 rfl
        rw [decide_eq_false h2] at hr
        rw [hr]
        conv => whnf
        exact dle_pair dle_zero
      · have h2 : lineS (pStpAt s 3) = s := (str_ne hlby hs h).2 rfl
        rw [decide_eq_true h2] at hr
        rw [hr]
        conv => whnf
        exact dle_pair hfin
  · have hdl : DLe (.v (.slice none 0 0)) (rowsN (pStpAt s 4).frame) := dle_nilN
    have hmay := mayF_fn (pStpAt s 4) hdl
    have hlin := lineF_fn (pStpAt s 4) hok hdl
    have hfin := dle_stF hdl
    conv => whnf
    refine ⟨rfl, ⟨by decide, hL 1 (by decide)⟩, ?_⟩
    conv => whnf
    refine ⟨rfl, hN 1 (by decide), fun x hx => ?_⟩
    obtain rfl := hat 1 (by decide) x hx
    clear hx
    conv => whnf
    refine CallVC.pure (number_fnP _ (hwb 1)) rfl ?_
    rintro _ rfl
    conv => whnf
    refine CallVC.pure hmay rfl ?_
    rintro _ rfl
    cases hm : maySB (pStpAt s 4) with
    | false =>
      rw [hm] at hr
      rw [hr]
      conv => whnf
      exact dle_pair dle_zero
    | true =>
      rw [hm] at hr
      conv => whnf
      refine CallVC.pure hlin rfl ?_
      rintro _ rfl
      conv => whnf
      refine Fork.intro (fun h => ?_) (fun h => ?_)
      · have h2 : lineS (pStpAt s 4) ≠ s := (str_ne hlby hs h).1 rfl
        rw [decide_eq_false h2] at hr
        rw [hr]
        conv => whnf
        exact dle_pair dle_zero
      · have h2 : lineS (pStpAt s 4) = s := (str_ne hlby hs h).2 rfl
        rw [decide_eq_true h2] at hr
        rw [hr]
        conv => whnf
        exact dle_pair hfin
  · have hdl : DLe (.v (.slice none 0 0)) (rowsN (pStpAt s 5).frame) := dle_nilN
    have hmay := mayF_fn (pStpAt s 5) hdl
    have hlin := lineF_fn (pStpAt s 5) hok hdl
    have hfin := dle_stF hdl
    conv => whnf
    refine ⟨rfl, ⟨by decide, hL 1 (by decide)⟩, ?_⟩
    conv => whnf
    refine ⟨rfl, hN 1 (by decide), fun x hx => ?_⟩
    obtain rfl := hat 1 (by decide) x hx
    clear hx
    conv => whnf
    refine ⟨rfl, ⟨by decide, hL 2 (by decide)⟩, ?_⟩
    conv => whnf
    refine ⟨rfl, hN 2 (by decide), fun x hx => ?_⟩
    obtain rfl := hat 2 (by decide) x hx
    clear hx
    conv => whnf
    refine CallVC.pure (key_fn _ (hwb 1) (by have := hwl 1; omega)) rfl ?_
    rintro _ rfl
    conv => whnf
    refine CallVC.pure (key_fn _ (hwb 2) (by have := hwl 2; omega)) rfl ?_
    rintro _ rfl
    conv => whnf
    refine CallVC.pure hmay rfl ?_
    rintro _ rfl
    cases hm : maySB (pStpAt s 5) with
    | false =>
      rw [hm] at hr
      rw [hr]
      conv => whnf
      exact dle_pair dle_zero
    | true =>
      rw [hm] at hr
      conv => whnf
      refine CallVC.pure hlin rfl ?_
      rintro _ rfl
      conv => whnf
      refine Fork.intro (fun h => ?_) (fun h => ?_)
      · have h2 : lineS (pStpAt s 5) ≠ s := (str_ne hlby hs h).1 rfl
        rw [decide_eq_false h2] at hr
        rw [hr]
        conv => whnf
        exact dle_pair dle_zero
      · have h2 : lineS (pStpAt s 5) = s := (str_ne hlby hs h).2 rfl
        rw [decide_eq_true h2] at hr
        rw [hr]
        conv => whnf
        exact dle_pair hfin
theorem pread_fn (s : List Nat) (hs : Byt s) (hl : s.length ≤ 1000000) : Fn Tryz.prog 7 [strD s] fun d => d = readD (pReadS s) := Fn.exact (pread0_fn s hs hl)
end Go.Proofs.YtbjhkhhbdlnfbaaGreatDoor.V
namespace Go.Proofs.YtbjhkhhbdlnfbaaGreatDoor.V
open Go.RowKit
attribute [local irreducible] Fn FnN OpVC DLe

/-! ### Lines -/
theorem catR {w x : List Nat} {b : ByteArray} (h : b = strB w) : strB x ++ b = strB (x ++ w) := by rw [h, strB_append]
theorem cat_le {a b : List Nat} {x y : ByteArray} (hx : x = strB a) (hy : y = strB b) (h : a.length + b.length ≤ 1000000000) : ((x.size + y.size : Nat) : Int) ≤ 9223372036854775807 := by
  subst hx hy; exact str_le h
/-! ### Steps compared -/
instance : DecidableEq Stp := fun a b => by
  obtain ⟨a1, a2, a3, a4, a5, a6⟩ := a
  obtain ⟨b1, b2, b3, b4, b5, b6⟩ := b
  exact decidable_of_iff (a1 = b1 ∧ a2 = b2 ∧ a3 = b3 ∧ a4 = b4 ∧ a5 = b5 ∧ a6 = b6) (by rw [Stp.mk.injEq])
end Go.Proofs.YtbjhkhhbdlnfbaaGreatDoor.V
