/-
  What a step asks of a packet, which filters may be: the program's, by value. Conditions: bytes, not too many; numbers of their types.
  Which filters may be: the program's, by value. Conditions: numbers of their types.
  Filters put together: the plain law of FilterLaws. No condition.
  The law FilterLaws by value, where lives is true. Conditions: bytes, numbers of their types.
-/
import Derived.Test.YtfghccppoilfhaaK5
import Derived.WalkKit
import Derived.WalkSpells
import Derived.WalkLawsBesides
import Derived.Deep.Light
import Derived.Deep.RegionHeld3
import Derived.Deep.MidRow
import Derived.Lib.Hide
import Derived.Laws.BitsAllLaws
import Derived.Test.YtfghccppoilfhaaProg
import Derived.LoopTactic
import Derived.Handy
namespace Go.Proofs.Ytfghccppoilfhaa.V
open Go.RowKit
attribute [local irreducible] Fn FnN FnR OpVC DLe

structure FSt where
  op : Int
  addr : Nat
  num : Int
deriving DecidableEq
def fstD (x : FSt) : List D := [intD x.op, u32D x.addr, intD x.num]
abbrev rowsF (L : List FSt) : D := .rows FSt 3 fstD L

end Go.Proofs.Ytfghccppoilfhaa.V
namespace Go.Proofs.Ytfghccppoilfhaa.V
open Go.RowKit
attribute [local irreducible] Fn FnN FnR OpVC DLe

def takesN (op : Int) : Nat := match decide (op = 11) with
  | true => 2
  | false => match decide (op = 12) with
    | true => 2
    | false => match decide (op = 13) with
      | true => 1
      | false => 0
def boundI (op : Int) : Int := match decide (op = 5) with
  | true => 32
  | false => match decide (op = 6) with
    | true => 32
    | false => match decide (op = 7) with
      | true => 65535
      | false => match decide (op = 8) with
        | true => 65535
        | false => match decide (op = 10) with
          | true => 65535
          | false => match decide (op < 1) with
            | true => -1
            | false => match decide (13 < op) with
              | true => -1
              | false => 0
def netB (op : Int) : Bool := match decide (op = 5) with
  | true => true
  | false => decide (op = 6)
def bareB (x : FSt) : Bool := match decide (0 ≤ boundI x.op) with
  | false => false
  | true => match decide (0 ≤ x.num) with
    | false => false
    | true => match decide (x.num ≤ boundI x.op) with
      | false => false
      | true => match netB x.op with
        | true => true
        | false => decide ((x.addr : Int) = 0)
theorem takes_fn (op : Int) : Fn Try.prog 21 [intD op] fun d => d = intD ((takesN op : Nat) : Int) := by
  refine fnOf [] Try.func21 rfl (by kernel_rfl) (Nat.le_of_ble_eq_true rfl) ?_
  unfold takesN
  conv => whnf
  refine Fork.intro (fun q => ?_) (fun q => ?_)
  · rw [show decide (op = 11) = true from q]
    conv => whnf
    rfl
  rw [show decide (op = 11) = false from q]
  conv => whnf
  refine Fork.intro (fun q => ?_) (fun q => ?_)
  · rw [show decide (op = 12) = true from q]
    conv => whnf
    rfl
  rw [show decide (op = 12) = false from q]
  conv => whnf
  refine Fork.intro (fun q => ?_) (fun q => ?_)
  · rw [show decide (op = 13) = true from q]
    conv => whnf
    rfl
  rw [show decide (op = 13) = false from q]
  conv => whnf
  rfl
theorem bound_fn (op : Int) : Fn Try.prog 33 [intD op] fun d => d = intD (boundI op) := by
  refine fnOf [] Try.func33 rfl (by kernel_rfl) (Nat.le_of_ble_eq_true rfl) ?_
  unfold boundI
  conv => whnf
  refine Fork.intro (fun q => ?_) (fun q => ?_)
  · rw [show decide (op = 5) = true from q]
    conv => whnf
    try rfl
  rw [show decide (op = 5) = false from q]
  conv => whnf
  refine Fork.intro (fun q => ?_) (fun q => ?_)
  · rw [show decide (op = 6) = true from q]
    conv => whnf
    try rfl
  rw [show decide (op = 6) = false from q]
  conv => whnf
  refine Fork.intro (fun q => ?_) (fun q => ?_)
  · rw [show decide (op = 7) = true from q]
    conv => whnf
    try rfl
  rw [show decide (op = 7) = false from q]
  conv => whnf
  refine Fork.intro (fun q => ?_) (fun q => ?_)
  · rw [show decide (op = 8) = true from q]
    conv => whnf
    try rfl
  rw [show decide (op = 8) = false from q]
  conv => whnf
  refine Fork.intro (fun q => ?_) (fun q => ?_)
  · rw [show decide (op = 10) = true from q]
    conv => whnf
    try rfl
  rw [show decide (op = 10) = false from q]
  conv => whnf
  refine Fork.intro (fun q => ?_) (fun q => ?_)
  · rw [show decide (op < 1) = true from q]
    conv => whnf
    try rfl
  rw [show decide (op < 1) = false from q]
  conv => whnf
  refine Fork.intro (fun q => ?_) (fun q => ?_)
  · rw [show decide (13 < op) = true from q]
    conv => whnf
    try rfl
  rw [show decide (13 < op) = false from q]
  conv => whnf
  try rfl
theorem bare_fn (x : FSt) : Fn Try.prog 22 [.agg (fstD x)] fun d => d = boolD (bareB x) := by
  refine fnOf [] Try.func22 rfl (by kernel_rfl) (Nat.le_of_ble_eq_true rfl) ?_
  have hb := bound_fn x.op
  unfold bareB
  generalize boundI x.op = b at *
  conv => whnf
  refine CallVC.pure hb rfl ?_
  rintro _ rfl
  conv => whnf
  refine Fork.intro (fun q => ?_) (fun q => ?_)
  · unfold netB
    rw [show decide (x.op = 5) = true from q]
    conv => whnf
    refine Fork.intro (fun g => ?_) (fun g => ?_)
    · rw [show decide (0 ≤ b) = true from g]
      conv => whnf
      refine Fork.intro (fun g => ?_) (fun g => ?_)
      · rw [show decide (0 ≤ x.num) = true from g]
        conv => whnf
        refine Fork.intro (fun g => ?_) (fun g => ?_)
        · rw [show decide (x.num ≤ b) = true from g]
          conv => whnf
          try rfl
        · rw [show decide (x.num ≤ b) = false from g]
          conv => whnf
          try rfl
      · rw [show decide (0 ≤ x.num) = false from g]
        conv => whnf
        try rfl
    · rw [show decide (0 ≤ b) = false from g]
      conv => whnf
      try rfl
  · unfold netB
    rw [show decide (x.op = 5) = false from q]
    conv => whnf
    refine Fork.intro (fun g => ?_) (fun g => ?_)
    · rw [show decide (0 ≤ b) = true from g]
      conv => whnf
      refine Fork.intro (fun g => ?_) (fun g => ?_)
      · rw [show decide (0 ≤ x.num) = true from g]
        conv => whnf
        refine Fork.intro (fun g => ?_) (fun g => ?_)
        · rw [show decide (x.num ≤ b) = true from g]
          conv => whnf
          refine Fork.intro (fun g => ?_) (fun g => ?_)
          · rw [show decide (x.op = 6) = true from g]
            conv => whnf
            try rfl
          · rw [show decide (x.op = 6) = false from g]
            conv => whnf
            try rfl
        · rw [show decide (x.num ≤ b) = false from g]
          conv => whnf
          try rfl
      · rw [show decide (0 ≤ x.num) = false from g]
        conv => whnf
        try rfl
    · rw [show decide (0 ≤ b) = false from g]
      conv => whnf
      try rfl
def goR : Nat → List FSt → Option Nat
  | n, [] => some n
  | n, x :: r => match bareB x with
    | false => none
    | true => match decide (n < takesN x.op) with
      | true => none
      | false => goR (n + 1 - takesN x.op) r
def rightF (f : List FSt) : Bool := decide (0 < f.length) && decide (f.length ≤ 100) && decide (goR 0 f = some 1)
theorem takesN_le (op : Int) : takesN op ≤ 2 := by
  unfold takesN
  repeat' split
  all_goals decide
theorem goR_app : ∀ (f g : List FSt) (n : Nat), goR n (f ++ g) = match goR n f with
    | some m => goR m g
    | none => none
  | [], g, n => rfl
  | x :: r, g, n => by
    rw [List.cons_append, goR, goR]
    cases bareB x with
    | false => rfl
    | true =>
      cases decide (n < takesN x.op) with
      | true => rfl
      | false => exact goR_app r g _
set_option maxHeartbeats 1000000 in
theorem right_fn (f : List FSt) : Fn Try.prog 13 [rowsF f] fun d => d = boolD (rightF f) := by
  refine fnOf [] Try.func13 rfl (by kernel_rfl) (Nat.le_of_ble_eq_true rfl) ?_
  unfold rightF
  conv => whnf
  refine Fork.intro (fun q => ?_) (fun q => ?_)
  · rw [decide_eq_false (show ¬ 0 < f.length by have := of_decide_eq_true q; omega)]
    conv => whnf
    try rfl
  rw [decide_eq_true (show 0 < f.length by have := of_decide_eq_false q; omega)]
  conv => whnf
  refine Fork.intro (fun q => ?_) (fun q => ?_)
  · rw [decide_eq_false (show ¬ f.length ≤ 100 by have := of_decide_eq_true q; omega)]
    conv => whnf
    try rfl
  have h100 : f.length ≤ 100 := by have := of_decide_eq_false q; omega
  rw [decide_eq_true h100]
  conv => whnf
  refine ⟨Nat × Nat, fun p => ⟨[(17, intD p.1), (16, intD f.length), (15, rowsF f), (3, intD p.2)], [], 0, ([], 0)⟩, fun p => p.1 ≤ f.length ∧ p.2 ≤ p.1 ∧ goR p.2 (f.drop p.1) = goR 0 f, fun p => f.length - p.1, ⟨(0, 0), [], [], ?_, Nat.zero_le _, Nat.le_refl _, rfl⟩, ?_⟩
  · repeat' (first | exact trivial | exact .inl (DLe.refl _) | exact .inl (DLe.nil _ _) | (refine .inr ⟨rfl, _, ?_, rfl⟩; rfl) | exact rfl | exact .inl rfl | exact .inr ⟨rfl, rfl, rfl, rfl⟩ | exact Nat.zero_le _ | constructor)
  rintro ⟨k, n⟩ ⟨hk, hn, hg⟩
  dsimp only at hk hn hg
  dsimp only
  have e0 := wrapN (n := k) (by omega)
  conv => whnf
  refine Fork.intro (fun q1 => ?_) (fun q1 => ?_)
  · have q1 : k < f.length := by have := of_decide_eq_true q1; omega
    obtain ⟨x, hx⟩ : ∃ x, f[k]? = some x := ⟨_, List.getElem?_eq_getElem q1⟩
    have hd : f.drop k = x :: f.drop (k + 1) := by
      rw [List.drop_eq_getElem_cons q1]
      congr 1
      rw [List.getElem?_eq_getElem q1] at hx
      injection hx
    rw [hd, goR] at hg
    have htk := takes_fn x.op
    have hbr := bare_fn x
    have ht2 := takesN_le x.op
    generalize takesN x.op = t at *
    conv => whnf
    refine ⟨rfl, ⟨by omega, by omega⟩, fun y hy => ?_⟩
    obtain rfl : x = y := Option.some.inj (hx.symm.trans hy)
    conv => whnf
    refine CallVC.pure htk rfl ?_
    rintro _ rfl
    conv => whnf
    refine CallVC.pure hbr rfl ?_
    rintro _ rfl
    generalize bareB x = bb at *
    cases bb with
    | false =>
      dsimp only at hg
      rw [← hg]
      conv => whnf
      rfl
    | true =>
      dsimp only at hg
      conv => whnf
      refine Fork.intro (fun q2 => ?_) (fun q2 => ?_)
      · rw [decide_eq_true (show n < t by have := of_decide_eq_true q2; omega)] at hg
        dsimp only at hg
        rw [← hg]
        conv => whnf
        rfl
      · have q2 : ¬ n < t := by have := of_decide_eq_false q2; omega
        rw [decide_eq_false q2] at hg
        dsimp only at hg
        have e1 : IntKind.i64.wrap ((n : Int) + IntKind.i64.wrap (1 - (t : Int))) = ((n + 1 - t : Nat) : Int) := by
          rw [IntWalk.i64_in (1 - (t : Int)) (by omega), IntWalk.i64_in _ (by omega)]; omega
        conv => whnf
        rw [e1, e0]
        refine ⟨(k + 1, n + 1 - t), [], [], ?_, ⟨by show k + 1 ≤ f.length; omega, by show n + 1 - t ≤ k + 1; omega, hg⟩, by show f.length - (k + 1) < f.length - k; omega⟩
        repeat' (first | exact trivial | exact .inl (DLe.refl _) | exact .inl (DLe.nil _ _) | (refine .inr ⟨rfl, _, ?_, rfl⟩; rfl) | exact rfl | exact .inl rfl | exact .inr ⟨rfl, rfl, rfl, rfl⟩ | exact Nat.zero_le _ | constructor)
  · have q1 : k = f.length := by have := of_decide_eq_false q1; omega
    rw [q1, List.drop_length, goR] at hg
    rw [← hg]
    conv => whnf
    refine congrArg boolD ?_
    simp only [Bool.true_and]
    exact decide_eq_decide.2 ⟨fun h => congrArg some (by omega), fun h => by injection h with h; omega⟩
end Go.Proofs.Ytfghccppoilfhaa.V
namespace Go.Proofs.Ytfghccppoilfhaa.V
open Go.RowKit

theorem goR_cons {n : Nat} {x : FSt} {r : List FSt} {m : Nat} (h : goR n (x :: r) = some m) : bareB x = true ∧ takesN x.op ≤ n ∧ goR (n + 1 - takesN x.op) r = some m := by
  rw [goR] at h
  split at h
  · cases h
  · rename_i hb
    split at h
    · cases h
    · rename_i ht
      have ht := of_decide_eq_false ht
      exact ⟨hb, by omega, h⟩
theorem right_go {f : List FSt} (h : rightF f = true) : goR 0 f = some 1 ∧ 0 < f.length ∧ f.length ≤ 100 := by
  unfold rightF at h
  simp only [Bool.and_eq_true, decide_eq_true_eq] at h
  exact ⟨h.2, h.1.1, h.1.2⟩
abbrev opSt (n : Int) : FSt := ⟨n, 0, 0⟩
section
variable (p : Pkt) {f g : List FSt}
end
end Go.Proofs.Ytfghccppoilfhaa.V
namespace Go.Proofs.Ytfghccppoilfhaa.V
open Go.RowKit
attribute [local irreducible] Fn FnN FnR OpVC DLe

def stepsOk (f : List FSt) : Prop := ∀ x, x ∈ f → x.addr < 4294967296
end Go.Proofs.Ytfghccppoilfhaa.V
