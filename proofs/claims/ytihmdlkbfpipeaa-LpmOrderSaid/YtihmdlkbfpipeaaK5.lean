/-
  Nets as keys of a map. Conditions: numbers of their types.
  A net's key by the document. Conditions: numbers of their types.
  What nets put one behind the other come to: the last of each place; plain. Conditions: numbers of their types.
-/
import Derived.Test.YtihmdlkbfpipeaaK1
import Derived.Test.YtihmdlkbfpipeaaK4
namespace Go.Proofs.Ytihmdlkbfpipeaa.V
open Go.RowKit
attribute [local irreducible] Fn FnN OpVC ArC

theorem net_law : WideMaps.KeyLaw Try.prog 28 := deep_law (m := 3) (by decide) (by kernel_rfl) (by kernel_rfl) (by kernel_rfl)
def netK (a : Nat) (b : Int) : Value := .agg #[.int .u32 a, .int .i64 b, .int .i64 0]
theorem net_key (a : Nat) (b : Int) (ha : a < 4294967296) (hb : -1 ≤ b ∧ b ≤ 32) : ∃ l, keyOf Try.prog 28 (netK a b) = some l := by
  have hs : ∃ k, Try.prog.types.size = k + 1 := ⟨Try.prog.types.size - 1, by kernel_rfl⟩
  obtain ⟨k, hk⟩ := hs
  have w1 : (Lit.int .u32 (a : Int)).wf = true := by simp [Lit.wf, IntKind.min, IntKind.max, IntKind.signed, IntKind.bits]; omega
  have w2 : (Lit.int .i64 b).wf = true := by simp [Lit.wf, IntKind.min, IntKind.max, IntKind.signed, IntKind.bits]; omega
  have w3 : (Lit.int .i64 0).wf = true := by decide
  have hf : (Try.prog.keyType 28 && (netK a b).formed Try.prog 28) = true := by kernel_rfl
  unfold keyOf
  rw [Try.underlying28]
  simp only [hf, if_true]
  rw [hk]
  have c1 : Try.prog.cellsOf 28 = 3 := by kernel_rfl
  have c2 : Try.prog.cellsOf 26 = 1 := by kernel_rfl
  have c3 : Try.prog.cellsOf 3 = 1 := by kernel_rfl
  have k1 : ∀ d, Try.prog.keyLits (d + 1) 26 [.int .u32 (a : Int)] = some [.int .u32 a] := fun d => by
    unfold Program.keyLits
    rw [Try.underlying26]
    simp [w1]
  have k2 : ∀ d (n : Int), (Lit.int .i64 n).wf = true → Try.prog.keyLits (d + 1) 3 [.int .i64 n] = some [.int .i64 n] := fun d n hn => by
    unfold Program.keyLits
    rw [Try.underlying3]
    simp [hn]
  have e : Try.prog.keyLits (k + 1 + 1) 28 (netK a b).cells.toList = some [.int .u32 a, .int .i64 b, .int .i64 0] := by
    unfold Program.keyLits
    rw [Try.underlying28]
    simp [netK, Value.cells, c1, c2, c3, k1, k2 _ _ w2, k2 _ _ w3]
  rw [e]
  exact ⟨_, rfl⟩
end Go.Proofs.Ytihmdlkbfpipeaa.V
namespace Go.Proofs.Ytihmdlkbfpipeaa.V
open Go.RowKit
attribute [local irreducible] Fn FnN OpVC ArC

def firstN (a bits : Nat) : Nat := a / 2 ^ (32 - bits) * 2 ^ (32 - bits)
theorem u64w {n : Nat} (h : n < 18446744073709551616) : IntKind.u64.wrap (n : Int) = (n : Int) := by
  show (n : Int) % 18446744073709551616 = n
  omega
set_option maxHeartbeats 2000000 in
theorem first_fn (a bits : Nat) (ha : a < 4294967296) (hb : bits ≤ 32) : Fn Try.prog 18 [u32D a, intD bits] fun d => d = u32D (firstN a bits) := by
  refine fnOf [] Try.func18 rfl (by kernel_rfl) (Nat.le_of_ble_eq_true rfl) ?_
  conv => whnf
  refine ⟨Nat, fun j => ⟨[(6, intD (bits + j : Nat)), (5, .v (.int .u64 ((2 ^ j : Nat) : Int))), (0, u32D a)], [], 0, ([], 0)⟩, fun j => bits + j ≤ 32, fun j => 32 - j, ⟨0, [], [], ?_, by show bits + 0 ≤ 32; omega⟩, ?_⟩
  · repeat' (first | exact trivial | exact .inl (DLe.refl _) | exact .inl (DLe.nil _ _) | (refine .inr ⟨rfl, _, ?_, rfl⟩; rfl) | exact rfl | exact .inl rfl | exact .inr ⟨rfl, rfl, rfl, rfl⟩ | exact Nat.zero_le _ | constructor)
  intro j hj
  replace hj : bits + j ≤ 32 := hj
  have e0 := wrapN (n := bits + j) (by omega)
  have hp : 2 ^ (j + 1) ≤ 2 ^ 33 := Nat.pow_le_pow_right (by decide) (by omega)
  have hp2 : 2 ^ (j + 1) = 2 ^ j * 2 := Nat.pow_succ ..
  have hpos : 0 < 2 ^ j := Nat.pow_pos (by decide)
  have e1 : IntKind.u64.wrap (((2 ^ j : Nat) : Int) * 2) = ((2 ^ (j + 1) : Nat) : Int) := by
    rw [show ((2 ^ j : Nat) : Int) * 2 = ((2 ^ (j + 1) : Nat) : Int) by rw [hp2]; omega]
    exact u64w (by omega)
  conv => whnf
  refine Fork.intro (fun q => ?_) (fun q => ?_)
  · have q' : bits + j < 32 := by have := of_decide_eq_true q; omega
    conv => whnf
    rw [e1, e0]
    refine ⟨j + 1, [], [], ?_, by show bits + (j + 1) ≤ 32; omega, by show 32 - (j + 1) < 32 - j; omega⟩
    repeat' (first | exact trivial | exact .inl (DLe.refl _) | exact .inl (DLe.nil _ _) | (refine .inr ⟨rfl, _, ?_, rfl⟩; rfl) | exact rfl | exact .inl rfl | exact .inr ⟨rfl, rfl, rfl, rfl⟩ | exact Nat.zero_le _ | constructor)
  · have q' : 32 - bits = j := by have := of_decide_eq_false q; omega
    unfold firstN
    rw [q']
    generalize 2 ^ j = x at *
    have hx1 := Nat.div_mul_le_self a x
    have hx2 := Nat.div_le_self a x
    have ea : IntKind.u64.wrap (a : Int) = (a : Int) := u64w (by omega)
    have eq : IntKind.u64.wrap ((a : Int).tdiv (x : Int)) = ((a / x : Nat) : Int) := by
      rw [show (a : Int).tdiv (x : Int) = ((a / x : Nat) : Int) by rw [Int.tdiv_eq_ediv_of_nonneg (by omega)]; simp]
      exact u64w (by omega)
    have em : IntKind.u64.wrap (((a / x : Nat) : Int) * (x : Int)) = ((a / x * x : Nat) : Int) := by
      rw [show ((a / x : Nat) : Int) * (x : Int) = ((a / x * x : Nat) : Int) by simp]
      exact u64w (by omega)
    have el : IntKind.u32.wrap ((a / x * x : Nat) : Int) = ((a / x * x : Nat) : Int) := u32w (by omega)
    conv => whnf
    refine ⟨by omega, ?_⟩
    conv => whnf
    rw [ea, eq, em, el]
theorem way_first {a b : Nat} (ha : a < 4294967296) (hb : b < 4294967296) : ∀ {k : Nat}, k ≤ 32 → (way a k = way b k ↔ a / 2 ^ (32 - k) = b / 2 ^ (32 - k))
  | 0, _ => by
    rw [Nat.div_eq_of_lt ha, Nat.div_eq_of_lt hb]
    exact ⟨fun _ => rfl, fun _ => rfl⟩
  | k + 1, hk => by
    have ih := way_first ha hb (k := k) (by omega)
    rw [way_succ, way_succ]
    have e1 : ∀ x : Nat, x / 2 ^ (32 - k) = x / 2 ^ (31 - k) / 2 := fun x => by
      rw [Nat.div_div_eq_div_mul, ← Nat.pow_succ]
      congr 2
      omega
    rw [e1, e1] at ih
    rw [show 32 - (k + 1) = 31 - k by omega]
    unfold bitN
    constructor
    · intro h
      obtain ⟨h1, h2⟩ := List.append_inj' h rfl
      have h3 := ih.1 h1
      injection h2 with h2
      omega
    · intro h
      rw [ih.2 (by rw [h]), h]
def validN (n : LNet) : Bool := decide (0 ≤ n.bits ∧ n.bits ≤ 32)
def putN (n : LNet) : D := match validN n with
  | false => .tup [.v (.slice none 0 0), boolD false]
  | true => .tup [rowsL [⟨firstN n.addr n.bits.toNat, n.bits, n.num⟩], boolD true]
set_option maxHeartbeats 4000000 in
theorem rput_fn (n : LNet) (hn : n.ok) : Fn Try.prog 8 [.v (.slice none 0 0), .agg (netC n)] fun d => d = putN n := by
  refine fnOf [] Try.func8 rfl (by kernel_rfl) (Nat.le_of_ble_eq_true rfl) ?_
  obtain ⟨a, bits, num⟩ := n
  unfold putN validN
  dsimp only [LNet.ok] at hn ⊢
  conv => whnf
  refine Fork.intro (fun q => ?_) (fun q => ?_)
  · have q : bits < 0 := of_decide_eq_true q
    rw [show decide (0 ≤ bits ∧ bits ≤ 32) = false from decide_eq_false (by omega)]
    conv => whnf
    rfl
  · have q : ¬ bits < 0 := of_decide_eq_false q
    conv => whnf
    refine Fork.intro (fun q2 => ?_) (fun q2 => ?_)
    · have q2 : bits > 32 := of_decide_eq_true q2
      rw [show decide (0 ≤ bits ∧ bits ≤ 32) = false from decide_eq_false (by omega)]
      conv => whnf
      rfl
    · have q2 : ¬ bits > 32 := of_decide_eq_false q2
      obtain ⟨m, rfl⟩ : ∃ m : Nat, bits = (m : Int) := ⟨bits.toNat, by omega⟩
      have hf := first_fn a m hn (by omega)
      rw [show decide (0 ≤ (m : Int) ∧ (m : Int) ≤ 32) = true from decide_eq_true (by omega), Int.toNat_natCast]
      conv => whnf
      (refine CallVC.pure (hf) rfl ?_; rintro _ rfl; conv => whnf)
      refine ⟨Unit, fun _ => ⟨[(9, intD (0 : Nat)), (8, boolD true), (7, boolD false), (6, .v (.slice none 0 0)), (3, .loc 0 0), (0, .v (.slice none 0 0))], [(0, .cells 34 [u32D (firstN a m), intD m, intD num])], 1, ([], 0)⟩, fun _ => True, fun _ => 0, ⟨(), [], [], ?_, trivial⟩, ?_⟩
      · repeat' (first | exact trivial | exact .inl (DLe.refl _) | exact .inl (DLe.nil _ _) | (refine .inr ⟨rfl, _, ?_, rfl⟩; rfl) | exact rfl | exact .inl rfl | exact .inr ⟨rfl, rfl, rfl, rfl⟩ | exact Nat.zero_le _ | constructor)
      intro _ _
      conv => whnf
      (refine ⟨Nat.le_of_ble_eq_true rfl, ?_⟩; conv => whnf)
      refine ⟨LNet, netC, [⟨firstN a m, m, num⟩], rfl, fun _ => rfl, Nat.le_of_ble_eq_true rfl, Nat.le_of_ble_eq_true rfl, rfl, ?_⟩
      conv => whnf
      rfl
end Go.Proofs.Ytihmdlkbfpipeaa.V
namespace Go.Proofs.Ytihmdlkbfpipeaa.V
open Go.RowKit

def wayN (n : LNet) : List Nat := way n.addr n.bits.toNat
def putV (V : List Nat → Option Int) (n : LNet) : List Nat → Option Int := match validN n with
  | true => setV V (wayN n) (some n.num)
  | false => V
def lastV : List LNet → List Nat → Option Int
  | [], _ => none
  | n :: r, p => match lastV r p with
    | some v => some v
    | none => match validN n && decide (p = wayN n) with
      | true => some n.num
      | false => none
theorem lastV_cons (n : LNet) (r : List LNet) (p : List Nat) : lastV (n :: r) p = match lastV r p with
    | some v => some v
    | none => match validN n && decide (p = wayN n) with
      | true => some n.num
      | false => none := rfl
theorem putV_at (V : List Nat → Option Int) (n : LNet) (p : List Nat) : putV V n p = match validN n && decide (p = wayN n) with
    | true => some n.num
    | false => V p := by
  unfold putV
  cases hv : validN n with
  | false => rfl
  | true =>
    by_cases h : p = wayN n
    · subst h
      show setV _ _ _ _ = _
      rw [setV_same, decide_eq_true rfl]; rfl
    · show setV _ _ _ _ = _
      rw [setV_ne _ _ h, decide_eq_false h]; rfl
theorem lastV_snoc (n : LNet) : ∀ (L : List LNet) (p : List Nat), lastV (L ++ [n]) p = putV (lastV L) n p
  | [], p => by
    rw [putV_at]
    simp only [List.nil_append, lastV]
  | m :: L, p => by
    have ih := lastV_snoc n L p
    rw [putV_at] at ih ⊢
    rw [List.cons_append]
    unfold lastV
    rw [ih]
    cases validN n && decide (p = wayN n) with
    | true => rfl
    | false => rfl
theorem drop_put {V : List Nat → Option Int} {q : List Nat} {x : Option Int} (h : V q = none) : setV (setV V q x) q none = V := by
  funext p
  by_cases e : p = q
  · subst e; rw [setV_same, h]
  · rw [setV_ne _ _ e, setV_ne _ _ e]
theorem lastV_some : ∀ {L : List LNet} {p : List Nat}, lastV L p ≠ none ↔ ∃ m, m ∈ L ∧ validN m = true ∧ wayN m = p
  | [], p => ⟨fun h => absurd rfl h, fun ⟨_, h, _⟩ => absurd h List.not_mem_nil⟩
  | n :: r, p => by
    have ih := lastV_some (L := r) (p := p)
    unfold lastV
    cases hq : lastV r p with
    | some v =>
      rw [hq] at ih
      obtain ⟨m, h1, h2⟩ := ih.1 (by simp)
      exact ⟨fun _ => ⟨m, List.mem_cons_of_mem _ h1, h2⟩, fun _ => by simp⟩
    | none =>
      rw [hq] at ih
      constructor
      · intro h
        cases hv : validN n && decide (p = wayN n) with
        | false => simp [hv] at h
        | true =>
          rw [Bool.and_eq_true] at hv
          exact ⟨n, List.mem_cons_self, hv.1, (of_decide_eq_true hv.2).symm⟩
      · rintro ⟨m, h1, h2, h3⟩
        rcases List.mem_cons.1 h1 with rfl | h1
        · rw [h2, decide_eq_true h3.symm]; simp
        · exact absurd rfl (ih.2 ⟨m, h1, h2, h3⟩)
def keyA (n : LNet) : Nat × Int := match validN n with
  | true => (firstN n.addr n.bits.toNat, n.bits)
  | false => (0, -1)
theorem keyA_way {n m : LNet} (hn : n.ok) (hm : m.ok) (h1 : validN n = true) : keyA m = keyA n ↔ validN m = true ∧ wayN m = wayN n := by
  have b1 := of_decide_eq_true h1
  unfold keyA
  rw [h1]
  cases h2 : validN m with
  | false =>
    constructor
    · intro h
      have := congrArg Prod.snd h
      dsimp only at this
      omega
    · rintro ⟨h, _⟩; cases h
  | true =>
    have b2 := of_decide_eq_true h2
    dsimp only
    unfold wayN
    have hpos : 0 < 2 ^ (32 - n.bits.toNat) := Nat.pow_pos (by decide)
    constructor
    · intro h
      injection h with h3 h4
      refine ⟨rfl, ?_⟩
      rw [h4] at h3 ⊢
      refine (way_first hm hn (by omega)).2 ?_
      unfold firstN at h3
      exact Nat.eq_of_mul_eq_mul_right hpos h3
    · rintro ⟨_, h⟩
      have h4 : m.bits.toNat = n.bits.toNat := by
        have := congrArg List.length h
        rwa [way_len, way_len] at this
      have h5 : m.bits = n.bits := by omega
      rw [h5] at h ⊢
      unfold firstN
      rw [(way_first hm hn (by omega)).1 h]
theorem lastV_met {n : LNet} {r : List LNet} (hn : n.ok) (hr : ∀ m, m ∈ r → m.ok) (h : ∃ m, m ∈ r ∧ keyA m = keyA n) : lastV (n :: r) = lastV r := by
  funext p
  cases hv : validN n with
  | false => rw [lastV_cons, hv]; cases lastV r p <;> rfl
  | true =>
    obtain ⟨m, h1, h2⟩ := h
    obtain ⟨h3, h4⟩ := (keyA_way hn (hr m h1) hv).1 h2
    rw [lastV_cons]
    by_cases e : p = wayN n
    · have : lastV r p ≠ none := lastV_some.2 ⟨m, h1, h3, h4.trans e.symm⟩
      cases hq : lastV r p with
      | none => exact absurd hq this
      | some v => rfl
    · rw [decide_eq_false e, Bool.and_false]
      cases lastV r p <;> rfl
theorem lastV_new {n : LNet} {r : List LNet} (hn : n.ok) (hr : ∀ m, m ∈ r → m.ok) (h : ∀ m, m ∈ r → keyA m ≠ keyA n) : lastV (n :: r) = putV (lastV r) n := by
  funext p
  rw [putV_at]
  rw [lastV_cons]
  cases hv : validN n && decide (p = wayN n) with
  | false => cases lastV r p <;> rfl
  | true =>
    rw [Bool.and_eq_true] at hv
    have : lastV r p = none := by
      cases hq : lastV r p with
      | none => rfl
      | some v =>
        obtain ⟨m, h1, h2, h3⟩ := lastV_some.1 (show lastV r p ≠ none by rw [hq]; simp)
        exact absurd ((keyA_way hn (hr m h1) hv.1).2 ⟨h2, h3.trans (of_decide_eq_true hv.2)⟩) (h m h1)
    rw [this]
end Go.Proofs.Ytihmdlkbfpipeaa.V
