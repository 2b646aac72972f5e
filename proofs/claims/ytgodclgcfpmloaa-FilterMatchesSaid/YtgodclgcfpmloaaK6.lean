/-
  What a step asks of a packet, which filters may be: the program's, by value. Conditions: bytes, not too many; numbers of their types.
  Which filters may be: the program's, by value. Conditions: numbers of their types.
  Whether a packet is wanted by a filter: the program's, by value. Conditions: bytes, not too many; numbers of their types.
  Filters put together: the plain law of FilterLaws. No condition.
  The law FilterLaws by value, where lives is true. Conditions: bytes, numbers of their types.
-/
import Derived.Test.YtgodclgcfpmloaaFiaK
namespace Go.Proofs.Ytgodclgcfpmloaa.V
open Go.RowKit
attribute [local irreducible] Fn FnN FnR OpVC DLe

structure FSt where
  op : Int
  addr : Nat
  num : Int
deriving DecidableEq
def fstD (x : FSt) : List D := [intD x.op, u32D x.addr, intD x.num]
abbrev rowsF (L : List FSt) : D := .rows FSt 3 fstD L

def isV (p : Pkt) (s : Sn) (x : FSt) : Bool := match decide (x.op = 1) with
  | true => decide ((p.proto : Int) = 6)
  | false => match decide (x.op = 2) with
    | true => decide ((p.proto : Int) = 17)
    | false => match decide (x.op = 3) with
      | true => decide ((p.proto : Int) = 1)
      | false => match decide (x.op = 5) with
        | true => inB p.src x.addr x.num
        | false => match decide (x.op = 6) with
          | true => inB p.dst x.addr x.num
          | false => match decide (x.op = 7) with
            | true => s.ports && decide ((s.src : Int) = x.num)
            | false => match decide (x.op = 8) with
              | true => s.ports && decide ((s.dst : Int) = x.num)
              | false => match decide (x.op = 9) with
                | true => s.syn
                | false => match decide (x.op = 10) with
                  | true => decide (x.num ≤ ((20 + p.opts.length + p.data.length : Nat) : Int))
                  | false => true
theorem size_fn (p : Pkt) (h : p.opts.length ≤ 100000) : Fn Try.prog 35 [.agg (pktD p)] fun d => d = intD ((20 + p.opts.length : Nat) : Int) := by
  refine fnOf [] Try.func35 rfl (by kernel_rfl) (Nat.le_of_ble_eq_true rfl) ?_
  conv => whnf
  refine congrArg (fun n => D.v (.int .i64 n)) ?_
  rw [IntWalk.i64_in _ (by omega)]; omega
set_option maxHeartbeats 2000000 in
theorem is_fn (p : Pkt) (s : Sn) (x : FSt) (h : p.ok) (hl : p.data.length ≤ 100000) (ho : p.opts.length ≤ 100000) (ha : x.addr < 4294967296) : Fn Try.prog 22 [.agg (seenD p s), .agg (fstD x)] fun d => d = boolD (isV p s x) := by
  refine fnOf [(19, [0, 1, 3, 4, 5, 6, 8, 9, 2, 7, 10, 11])] Try.func22 rfl (by kernel_rfl) (Nat.le_of_ble_eq_true rfl) ?_
  have h5 := inNet_fn p.src x.addr x.num h.src ha
  have h6 := inNet_fn p.dst x.addr x.num h.dst ha
  have hsz := size_fn p ho
  unfold isV
  generalize inB p.src x.addr x.num = r5 at *
  generalize inB p.dst x.addr x.num = r6 at *
  conv => whnf
  refine Fork.intro (fun q => ?_) (fun q => ?_)
  · rw [show decide (x.op = 1) = true from q]
    conv => whnf
  rw [show decide (x.op = 1) = false from q]
  conv => whnf
  refine Fork.intro (fun q => ?_) (fun q => ?_)
  · rw [show decide (x.op = 2) = true from q]
    conv => whnf
  rw [show decide (x.op = 2) = false from q]
  conv => whnf
  refine Fork.intro (fun q => ?_) (fun q => ?_)
  · rw [show decide (x.op = 3) = true from q]
    conv => whnf
  rw [show decide (x.op = 3) = false from q]
  conv => whnf
  refine Fork.intro (fun q => ?_) (fun q => ?_)
  · rw [show decide (x.op = 5) = true from q]
    conv => whnf
    refine CallVC.pure h5 rfl ?_
    rintro _ rfl
    conv => whnf
  rw [show decide (x.op = 5) = false from q]
  conv => whnf
  refine Fork.intro (fun q => ?_) (fun q => ?_)
  · rw [show decide (x.op = 6) = true from q]
    conv => whnf
    refine CallVC.pure h6 rfl ?_
    rintro _ rfl
    conv => whnf
  rw [show decide (x.op = 6) = false from q]
  conv => whnf
  obtain ⟨ports, sp, dp, syn⟩ := s
  refine Fork.intro (fun q => ?_) (fun q => ?_)
  · rw [show decide (x.op = 7) = true from q]
    cases ports with
    | true =>
      conv => whnf
      rfl
    | false =>
      conv => whnf
      rfl
  rw [show decide (x.op = 7) = false from q]
  conv => whnf
  refine Fork.intro (fun q => ?_) (fun q => ?_)
  · rw [show decide (x.op = 8) = true from q]
    cases ports with
    | true =>
      conv => whnf
      rfl
    | false =>
      conv => whnf
      rfl
  rw [show decide (x.op = 8) = false from q]
  conv => whnf
  refine Fork.intro (fun q => ?_) (fun q => ?_)
  · rw [show decide (x.op = 9) = true from q]
    conv => whnf
  rw [show decide (x.op = 9) = false from q]
  conv => whnf
  refine Fork.intro (fun q => ?_) (fun q => ?_)
  · rw [show decide (x.op = 10) = true from q]
    have e : IntKind.i64.wrap (((20 + p.opts.length : Nat) : Int) + ((p.data.length : Nat) : Int)) = ((20 + p.opts.length + p.data.length : Nat) : Int) := by rw [IntWalk.i64_in _ (by omega)]; omega
    conv => whnf
    refine CallVC.pure hsz rfl ?_
    rintro _ rfl
    conv => whnf
    rw [e]
  rw [show decide (x.op = 10) = false from q]
  conv => whnf
end Go.Proofs.Ytgodclgcfpmloaa.V
namespace Go.Proofs.Ytgodclgcfpmloaa.V
open Go.RowKit
attribute [local irreducible] Fn FnN FnR OpVC DLe

def takesN (op : Int) : Nat := match decide (op = 11) with
  | true => 2
  | false => match decide (op = 12) with
    | true => 2
    | false => match decide (op = 13) with
      | true => 1
      | false => 0
def boundI (op : Int) : Int := match decide (op = 5) with
  | true => 32
  | false => match decide (op = 6) with
    | true => 32
    | false => match decide (op = 7) with
      | true => 65535
      | false => match decide (op = 8) with
        | true => 65535
        | false => match decide (op = 10) with
          | true => 65535
          | false => match decide (op < 1) with
            | true => -1
            | false => match decide (13 < op) with
              | true => -1
              | false => 0
def netB (op : Int) : Bool := match decide (op = 5) with
  | true => true
  | false => decide (op = 6)
def bareB (x : FSt) : Bool := match decide (0 ≤ boundI x.op) with
  | false => false
  | true => match decide (0 ≤ x.num) with
    | false => false
    | true => match decide (x.num ≤ boundI x.op) with
      | false => false
      | true => match netB x.op with
        | true => true
        | false => decide ((x.addr : Int) = 0)
theorem takes_fn (op : Int) : Fn Try.prog 18 [intD op] fun d => d = intD ((takesN op : Nat) : Int) := by
  refine fnOf [] Try.func18 rfl (by kernel_rfl) (Nat.le_of_ble_eq_true rfl) ?_
  unfold takesN
  conv => whnf
  refine Fork.intro (fun q => ?_) (fun q => ?_)
  · rw [show decide (op = 11) = true from q]
    conv => whnf
    rfl
  rw [show decide (op = 11) = false from q]
  conv => whnf
  refine Fork.intro (fun q => ?_) (fun q => ?_)
  · rw [show decide (op = 12) = true from q]
    conv => whnf
    rfl
  rw [show decide (op = 12) = false from q]
  conv => whnf
  refine Fork.intro (fun q => ?_) (fun q => ?_)
  · rw [show decide (op = 13) = true from q]
    conv => whnf
    rfl
  rw [show decide (op = 13) = false from q]
  conv => whnf
  rfl
theorem bound_fn (op : Int) : Fn Try.prog 31 [intD op] fun d => d = intD (boundI op) := by
  refine fnOf [] Try.func31 rfl (by kernel_rfl) (Nat.le_of_ble_eq_true rfl) ?_
  unfold boundI
  conv => whnf
  refine Fork.intro (fun q => ?_) (fun q => ?_)
  · rw [show decide (op = 5) = true from q]
    conv => whnf
    try rfl
  rw [show decide (op = 5) = false from q]
  conv => whnf
  refine Fork.intro (fun q => ?_) (fun q => ?_)
  · rw [show decide (op = 6) = true from q]
    conv => whnf
    try rfl
  rw [show decide (op = 6) = false from q]
  conv => whnf
  refine Fork.intro (fun q => ?_) (fun q => ?_)
  · rw [show decide (op = 7) = true from q]
    conv => whnf
    try rfl
  rw [show decide (op = 7) = false from q]
  conv => whnf
  refine Fork.intro (fun q => ?_) (fun q => ?_)
  · rw [show decide (op = 8) = true from q]
    conv => whnf
    try rfl
  rw [show decide (op = 8) = false from q]
  conv => whnf
  refine Fork.intro (fun q => ?_) (fun q => ?_)
  · rw [show decide (op = 10) = true from q]
    conv => whnf
    try rfl
  rw [show decide (op = 10) = false from q]
  conv => whnf
  refine Fork.intro (fun q => ?_) (fun q => ?_)
  · rw [show decide (op < 1) = true from q]
    conv => whnf
    try rfl
  rw [show decide (op < 1) = false from q]
  conv => whnf
  refine Fork.intro (fun q => ?_) (fun q => ?_)
  · rw [show decide (13 < op) = true from q]
    conv => whnf
    try rfl
  rw [show decide (13 < op) = false from q]
  conv => whnf
  try rfl
theorem bare_fn (x : FSt) : Fn Try.prog 19 [.agg (fstD x)] fun d => d = boolD (bareB x) := by
  refine fnOf [] Try.func19 rfl (by kernel_rfl) (Nat.le_of_ble_eq_true rfl) ?_
  have hb := bound_fn x.op
  unfold bareB
  generalize boundI x.op = b at *
  conv => whnf
  refine CallVC.pure hb rfl ?_
  rintro _ rfl
  conv => whnf
  refine Fork.intro (fun q => ?_) (fun q => ?_)
  · unfold netB
    rw [show decide (x.op = 5) = true from q]
    conv => whnf
    refine Fork.intro (fun g => ?_) (fun g => ?_)
    · rw [show decide (0 ≤ b) = true from g]
      conv => whnf
      refine Fork.intro (fun g => ?_) (fun g => ?_)
      · rw [show decide (0 ≤ x.num) = true from g]
        conv => whnf
        refine Fork.intro (fun g => ?_) (fun g => ?_)
        · rw [show decide (x.num ≤ b) = true from g]
          conv => whnf
          try rfl
        · rw [show decide (x.num ≤ b) = false from g]
          conv => whnf
          try rfl
      · rw [show decide (0 ≤ x.num) = false from g]
        conv => whnf
        try rfl
    · rw [show decide (0 ≤ b) = false from g]
      conv => whnf
      try rfl
  · unfold netB
    rw [show decide (x.op = 5) = false from q]
    conv => whnf
    refine Fork.intro (fun g => ?_) (fun g => ?_)
    · rw [show decide (0 ≤ b) = true from g]
      conv => whnf
      refine Fork.intro (fun g => ?_) (fun g => ?_)
      · rw [show decide (0 ≤ x.num) = true from g]
        conv => whnf
        refine Fork.intro (fun g => ?_) (fun g => ?_)
        · rw [show decide (x.num ≤ b) = true from g]
          conv => whnf
          refine Fork.intro (fun g => ?_) (fun g => ?_)
          · rw [show decide (x.op = 6) = true from g]
            conv => whnf
            try rfl
          · rw [show decide (x.op = 6) = false from g]
            conv => whnf
            try rfl
        · rw [show decide (x.num ≤ b) = false from g]
          conv => whnf
          try rfl
      · rw [show decide (0 ≤ x.num) = false from g]
        conv => whnf
        try rfl
    · rw [show decide (0 ≤ b) = false from g]
      conv => whnf
      try rfl
def goR : Nat → List FSt → Option Nat
  | n, [] => some n
  | n, x :: r => match bareB x with
    | false => none
    | true => match decide (n < takesN x.op) with
      | true => none
      | false => goR (n + 1 - takesN x.op) r
def rightF (f : List FSt) : Bool := decide (0 < f.length) && decide (f.length ≤ 100) && decide (goR 0 f = some 1)
theorem takesN_le (op : Int) : takesN op ≤ 2 := by
  unfold takesN
  repeat' split
  all_goals decide
theorem goR_app : ∀ (f g : List FSt) (n : Nat), goR n (f ++ g) = match goR n f with
    | some m => goR m g
    | none => none
  | [], g, n => rfl
  | x :: r, g, n => by
    rw [List.cons_append, goR, goR]
    cases bareB x with
    | false => rfl
    | true =>
      cases decide (n < takesN x.op) with
      | true => rfl
      | false => exact goR_app r g _
set_option maxHeartbeats 1000000 in
theorem right_fn (f : List FSt) : Fn Try.prog 6 [rowsF f] fun d => d = boolD (rightF f) := by
  refine fnOf [] Try.func6 rfl (by kernel_rfl) (Nat.le_of_ble_eq_true rfl) ?_
  unfold rightF
  conv => whnf
  refine Fork.intro (fun q => ?_) (fun q => ?_)
  · rw [decide_eq_false (show ¬ 0 < f.length by have := of_decide_eq_true q; omega)]
    conv => whnf
    try rfl
  rw [decide_eq_true (show 0 < f.length by have := of_decide_eq_false q; omega)]
  conv => whnf
  refine Fork.intro (fun q => ?_) (fun q => ?_)
  · rw [decide_eq_false (show ¬ f.length ≤ 100 by have := of_decide_eq_true q; omega)]
    conv => whnf
    try rfl
  have h100 : f.length ≤ 100 := by have := of_decide_eq_false q; omega
  rw [decide_eq_true h100]
  conv => whnf
  refine ⟨Nat × Nat, fun p => ⟨[(17, intD p.1), (16, intD f.length), (15, rowsF f), (3, intD p.2)], [], 0, ([], 0)⟩, fun p => p.1 ≤ f.length ∧ p.2 ≤ p.1 ∧ goR p.2 (f.drop p.1) = goR 0 f, fun p => f.length - p.1, ⟨(0, 0), [], [], ?_, Nat.zero_le _, Nat.le_refl _, rfl⟩, ?_⟩
  · repeat' (first | exact trivial | exact .inl (DLe.refl _) | exact .inl (DLe.nil _ _) | (refine .inr ⟨rfl, _, ?_, rfl⟩; rfl) | exact rfl | exact .inl rfl | exact .inr ⟨rfl, rfl, rfl, rfl⟩ | exact Nat.zero_le _ | constructor)
  rintro ⟨k, n⟩ ⟨hk, hn, hg⟩
  dsimp only at hk hn hg
  dsimp only
  have e0 := wrapN (n := k) (by omega)
  conv => whnf
  refine Fork.intro (fun q1 => ?_) (fun q1 => ?_)
  · have q1 : k < f.length := by have := of_decide_eq_true q1; omega
    obtain ⟨x, hx⟩ : ∃ x, f[k]? = some x := ⟨_, List.getElem?_eq_getElem q1⟩
    have hd : f.drop k = x :: f.drop (k + 1) := by
      rw [List.drop_eq_getElem_cons q1]
      congr 1
      rw [List.getElem?_eq_getElem q1] at hx
      injection hx
    rw [hd, goR] at hg
    have htk := takes_fn x.op
    have hbr := bare_fn x
    have ht2 := takesN_le x.op
    generalize takesN x.op = t at *
    conv => whnf
    refine ⟨rfl, ⟨by omega, by omega⟩, fun y hy => ?_⟩
    obtain rfl : x = y := Option.some.inj (hx.symm.trans hy)
    conv => whnf
    refine CallVC.pure htk rfl ?_
    rintro _ rfl
    conv => whnf
    refine CallVC.pure hbr rfl ?_
    rintro _ rfl
    generalize bareB x = bb at *
    cases bb with
    | false =>
      dsimp only at hg
      rw [← hg]
      conv => whnf
      rfl
    | true =>
      dsimp only at hg
      conv => whnf
      refine Fork.intro (fun q2 => ?_) (fun q2 => ?_)
      · rw [decide_eq_true (show n < t by have := of_decide_eq_true q2; omega)] at hg
        dsimp only at hg
        rw [← hg]
        conv => whnf
        rfl
      · have q2 : ¬ n < t := by have := of_decide_eq_false q2; omega
        rw [decide_eq_false q2] at hg
        dsimp only at hg
        have e1 : IntKind.i64.wrap ((n : Int) + IntKind.i64.wrap (1 - (t : Int))) = ((n + 1 - t : Nat) : Int) := by
          rw [IntWalk.i64_in (1 - (t : Int)) (by omega), IntWalk.i64_in _ (by omega)]; omega
        conv => whnf
        rw [e1, e0]
        refine ⟨(k + 1, n + 1 - t), [], [], ?_, ⟨by show k + 1 ≤ f.length; omega, by show n + 1 - t ≤ k + 1; omega, hg⟩, by show f.length - (k + 1) < f.length - k; omega⟩
        repeat' (first | exact trivial | exact .inl (DLe.refl _) | exact .inl (DLe.nil _ _) | (refine .inr ⟨rfl, _, ?_, rfl⟩; rfl) | exact rfl | exact .inl rfl | exact .inr ⟨rfl, rfl, rfl, rfl⟩ | exact Nat.zero_le _ | constructor)
  · have q1 : k = f.length := by have := of_decide_eq_false q1; omega
    rw [q1, List.drop_length, goR] at hg
    rw [← hg]
    conv => whnf
    refine congrArg boolD ?_
    simp only [Bool.true_and]
    exact decide_eq_decide.2 ⟨fun h => congrArg some (by omega), fun h => by injection h with h; omega⟩
end Go.Proofs.Ytgodclgcfpmloaa.V
namespace Go.Proofs.Ytgodclgcfpmloaa.V
open Go.RowKit
attribute [local irreducible] Fn FnN FnR OpVC DLe

def bE (b : Bool) : List D := [boolD b]
def stepR (isb : FSt → Bool) (row : List Bool) (x : FSt) : List Bool := match decide (x.op = 11) with
  | true => row.take (row.length - 2) ++ [row.getD (row.length - 2) false && row.getD (row.length - 1) false]
  | false => match decide (x.op = 12) with
    | true => row.take (row.length - 2) ++ [row.getD (row.length - 2) false || row.getD (row.length - 1) false]
    | false => match decide (x.op = 13) with
      | true => row.set (row.length - 1) (!row.getD (row.length - 1) false)
      | false => row ++ [isb x]
def evF (isb : FSt → Bool) : List Bool → List FSt → List Bool
  | row, [] => row
  | row, x :: r => evF isb (stepR isb row x) r
def matchF (f : List FSt) (p : Pkt) : Bool := match rightF f with
  | true => (evF (isV p (seeP p)) [] f).getD 0 false
  | false => false
theorem getB_of {l : List Bool} {i : Nat} {x : Bool} (h : l[i]? = some x) : l.getD i false = x := by rw [List.getD_eq_getElem?_getD, h]; rfl
theorem getB_at {l : List Bool} {i : Nat} (h : i < l.length) : l[i]? = some (l.getD i false) := by
  rw [List.getElem?_eq_getElem h, getB_of (List.getElem?_eq_getElem h)]
set_option maxHeartbeats 4000000 in
theorem match_fn (f : List FSt) (p : Pkt) (hf : ∀ x, x ∈ f → x.addr < 4294967296) (h : p.ok) (hl : p.data.length ≤ 100000) (ho : p.opts.length ≤ 100000) : Fn Try.prog 9 [rowsF f, .agg (pktD p)] fun d => d = boolD (matchF f p) := by
  refine fnOf [] Try.func9 rfl (by kernel_rfl) (Nat.le_of_ble_eq_true rfl) ?_
  have hr := right_fn f
  have hlook := look_fn p h hl
  unfold matchF
  cases hright : rightF f with
  | false =>
    rw [hright] at hr
    conv => whnf
    refine CallVC.pure hr rfl ?_
    rintro _ rfl
    conv => whnf
  | true =>
    rw [hright] at hr
    have h3 : goR 0 f = some 1 ∧ f.length ≤ 100 := by
      unfold rightF at hright
      simp only [Bool.and_eq_true, decide_eq_true_eq] at hright
      exact ⟨hright.2, hright.1.2⟩
    have his : ∀ x, x ∈ f → Fn Try.prog 22 [.agg (seenD p (seeP p)), .agg (fstD x)] fun d => d = boolD (isV p (seeP p) x) := fun x hx => is_fn p _ x h hl ho (hf x hx)
    generalize seeP p = s at *
    generalize isV p s = isb at *
    conv => whnf
    refine CallVC.pure hr rfl ?_
    rintro _ rfl
    conv => whnf
    refine CallVC.pure hlook rfl ?_
    rintro _ rfl
    conv => whnf
    refine ⟨Nat × List Bool, fun g => ⟨[(17, intD g.1), (16, intD f.length), (15, rowsF f), (6, .grow 2), (5, .loc 1 0)], [(1, .cells 50 (seenD p s)), (2, .grow Bool 4 1 bE g.2)], 3, ([], 0)⟩,
      fun g => g.1 ≤ f.length ∧ g.2.length ≤ g.1 ∧ goR g.2.length (f.drop g.1) = some 1 ∧ evF isb g.2 (f.drop g.1) = evF isb [] f, fun g => f.length - g.1, ⟨(0, []), [], [2], ?_, Nat.zero_le _, Nat.zero_le _, h3.1, rfl⟩, ?_⟩
    · repeat' (first | exact trivial | exact .inl (DLe.refl _) | exact .inl (DLe.nil _ _) | (refine .inr ⟨rfl, _, ?_, rfl⟩; rfl) | exact rfl | exact .inl rfl | exact .inr ⟨rfl, rfl, rfl, rfl⟩ | exact Nat.zero_le _ | constructor)
    rintro ⟨k, row⟩ ⟨hk, hn, hg, he⟩
    dsimp only at hk hn hg he
    dsimp only
    have e0 := wrapN (n := k) (by omega)
    conv => whnf
    refine Fork.intro (fun q1 => ?_) (fun q1 => ?_)
    · have q1 : k < f.length := by have := of_decide_eq_true q1; omega
      obtain ⟨x, hx⟩ : ∃ x, f[k]? = some x := ⟨_, List.getElem?_eq_getElem q1⟩
      have hd : f.drop k = x :: f.drop (k + 1) := by
        rw [List.drop_eq_getElem_cons q1]
        congr 1
        rw [List.getElem?_eq_getElem q1] at hx
        injection hx
      rw [hd, goR] at hg
      rw [hd, evF] at he
      have hbare : bareB x = true := by
        cases hq : bareB x with
        | true => rfl
        | false => rw [hq] at hg; cases hg
      rw [hbare] at hg
      dsimp only at hg
      have htk : ¬ row.length < takesN x.op := fun hq => by
        rw [decide_eq_true hq] at hg; cases hg
      rw [decide_eq_false htk] at hg
      dsimp only at hg
      conv => whnf
      refine ⟨rfl, ⟨by omega, by omega⟩, fun y hy => ?_⟩
      obtain rfl : x = y := Option.some.inj (hx.symm.trans hy)
      conv => whnf
      unfold stepR at he
      unfold takesN at hg htk
      refine Fork.intro (fun q => ?_) (fun q => ?_)
      · rw [show decide (x.op = 11) = true from q] at he hg htk
        dsimp only at he hg htk
        have e2 : IntKind.i64.wrap ((row.length : Int) - 2) = ((row.length - 2 : Nat) : Int) := by rw [IntWalk.i64_in _ (by omega)]; omega
        have e1 : IntKind.i64.wrap ((row.length : Int) - 1) = ((row.length - 1 : Nat) : Int) := by rw [IntWalk.i64_in _ (by omega)]; omega
        have ga := getB_at (l := row) (i := row.length - 2) (by omega)
        have gb := getB_at (l := row) (i := row.length - 1) (by omega)
        generalize row.getD (row.length - 2) false = va at *
        generalize row.getD (row.length - 1) false = vb at *
        conv => whnf
        rw [e2]
        refine ⟨rfl, ⟨by omega, by omega, by omega⟩, ?_⟩
        conv => whnf
        rw [e2]
        refine ⟨rfl, ⟨by omega, by omega⟩, ?_⟩
        conv => whnf
        refine ⟨rfl, by omega, fun y hy => ?_⟩
        obtain rfl : va = y := Option.some.inj (ga.symm.trans hy)
        cases va with
        | false =>
          conv => whnf
          refine ⟨by decide, ?_⟩
          conv => whnf
          refine op_appendCap (m := row.length - 2) (L0 := row) (β := Bool) (enc := bE) (L := row.take (row.length - 2) ++ [false]) ttH rfl rfl rfl (by omega) (by omega) rfl rfl rfl (by decide) rfl rfl rfl (by exact Nat.one_pos) (by rw [List.map_append, List.map_take]; rfl) (fun _ => rfl) (by rw [List.length_append, List.length_take]; show _ + 1 ≤ _; omega) (by rw [List.length_append, List.length_take]; show (_ + 1) * 1 ≤ _; omega) ?_
          conv => whnf
          rw [e0]
          refine ⟨(k + 1, row.take (row.length - 2) ++ [false]), [(2, 4)], [], ?_, ⟨by show k + 1 ≤ f.length; omega, by rw [List.length_append, List.length_take]; show _ + 1 ≤ k + 1; omega, by rw [List.length_append, List.length_take]; show goR (_ + 1) _ = _; rw [show min (row.length - 2) row.length + 1 = row.length + 1 - 2 by omega]; exact hg, he⟩, by show f.length - (k + 1) < f.length - k; omega⟩
          repeat' (first | exact trivial | exact .inl (DLe.refl _) | exact .inl (DLe.nil _ _) | (refine .inr ⟨rfl, _, ?_, rfl⟩; rfl) | exact rfl | exact .inl rfl | exact .inr ⟨rfl, rfl, rfl, rfl⟩ | exact Nat.zero_le _ | constructor)
        | true =>
          conv => whnf
          rw [e1]
          refine ⟨rfl, ⟨by omega, by omega⟩, ?_⟩
          conv => whnf
          refine ⟨rfl, by omega, fun y hy => ?_⟩
          obtain rfl : vb = y := Option.some.inj (gb.symm.trans hy)
          conv => whnf
          refine ⟨by decide, ?_⟩
          conv => whnf
          refine op_appendCap (m := row.length - 2) (L0 := row) (β := Bool) (enc := bE) (L := row.take (row.length - 2) ++ [vb]) ttH rfl rfl rfl (by omega) (by omega) rfl rfl rfl (by decide) rfl rfl rfl (by exact Nat.one_pos) (by rw [List.map_append, List.map_take]; rfl) (fun _ => rfl) (by rw [List.length_append, List.length_take]; show _ + 1 ≤ _; omega) (by rw [List.length_append, List.length_take]; show (_ + 1) * 1 ≤ _; omega) ?_
          conv => whnf
          rw [e0]
          refine ⟨(k + 1, row.take (row.length - 2) ++ [vb]), [(2, 4)], [], ?_, ⟨by show k + 1 ≤ f.length; omega, by rw [List.length_append, List.length_take]; show _ + 1 ≤ k + 1; omega, by rw [List.length_append, List.length_take]; show goR (_ + 1) _ = _; rw [show min (row.length - 2) row.length + 1 = row.length + 1 - 2 by omega]; exact hg, he⟩, by show f.length - (k + 1) < f.length - k; omega⟩
          repeat' (first | exact trivial | exact .inl (DLe.refl _) | exact .inl (DLe.nil _ _) | (refine .inr ⟨rfl, _, ?_, rfl⟩; rfl) | exact rfl | exact .inl rfl | exact .inr ⟨rfl, rfl, rfl, rfl⟩ | exact Nat.zero_le _ | constructor)
      rw [show decide (x.op = 11) = false from q] at he hg htk
      dsimp only at he hg htk
      conv => whnf
      refine Fork.intro (fun q => ?_) (fun q => ?_)
      · rw [show decide (x.op = 12) = true from q] at he hg htk
        dsimp only at he hg htk
        have e2 : IntKind.i64.wrap ((row.length : Int) - 2) = ((row.length - 2 : Nat) : Int) := by rw [IntWalk.i64_in _ (by omega)]; omega
        have e1 : IntKind.i64.wrap ((row.length : Int) - 1) = ((row.length - 1 : Nat) : Int) := by rw [IntWalk.i64_in _ (by omega)]; omega
        have ga := getB_at (l := row) (i := row.length - 2) (by omega)
        have gb := getB_at (l := row) (i := row.length - 1) (by omega)
        generalize row.getD (row.length - 2) false = va at *
        generalize row.getD (row.length - 1) false = vb at *
        conv => whnf
        rw [e2]
        refine ⟨rfl, ⟨by omega, by omega, by omega⟩, ?_⟩
        conv => whnf
        rw [e2]
        refine ⟨rfl, ⟨by omega, by omega⟩, ?_⟩
        conv => whnf
        refine ⟨rfl, by omega, fun y hy => ?_⟩
        obtain rfl : va = y := Option.some.inj (ga.symm.trans hy)
        cases va with
        | true =>
          conv => whnf
          refine ⟨by decide, ?_⟩
          conv => whnf
          refine op_appendCap (m := row.length - 2) (L0 := row) (β := Bool) (enc := bE) (L := row.take (row.length - 2) ++ [true]) ttH rfl rfl rfl (by omega) (by omega) rfl rfl rfl (by decide) rfl rfl rfl (by exact Nat.one_pos) (by rw [List.map_append, List.map_take]; rfl) (fun _ => rfl) (by rw [List.length_append, List.length_take]; show _ + 1 ≤ _; omega) (by rw [List.length_append, List.length_take]; show (_ + 1) * 1 ≤ _; omega) ?_
          conv => whnf
          rw [e0]
          refine ⟨(k + 1, row.take (row.length - 2) ++ [true]), [(2, 4)], [], ?_, ⟨by show k + 1 ≤ f.length; omega, by rw [List.length_append, List.length_take]; show _ + 1 ≤ k + 1; omega, by rw [List.length_append, List.length_take]; show goR (_ + 1) _ = _; rw [show min (row.length - 2) row.length + 1 = row.length + 1 - 2 by omega]; exact hg, he⟩, by show f.length - (k + 1) < f.length - k; omega⟩
          repeat' (first | exact trivial | exact .inl (DLe.refl _) | exact .inl (DLe.nil _ _) | (refine .inr ⟨rfl, _, ?_, rfl⟩; rfl) | exact rfl | exact .inl rfl | exact .inr ⟨rfl, rfl, rfl, rfl⟩ | exact Nat.zero_le _ | constructor)
        | false =>
          conv => whnf
          rw [e1]
          refine ⟨rfl, ⟨by omega, by omega⟩, ?_⟩
          conv => whnf
          refine ⟨rfl, by omega, fun y hy => ?_⟩
          obtain rfl : vb = y := Option.some.inj (gb.symm.trans hy)
          conv => whnf
          refine ⟨by decide, ?_⟩
          conv => whnf
          refine op_appendCap (m := row.length - 2) (L0 := row) (β := Bool) (enc := bE) (L := row.take (row.length - 2) ++ [vb]) ttH rfl rfl rfl (by omega) (by omega) rfl rfl rfl (by decide) rfl rfl rfl (by exact Nat.one_pos) (by rw [List.map_append, List.map_take]; rfl) (fun _ => rfl) (by rw [List.length_append, List.length_take]; show _ + 1 ≤ _; omega) (by rw [List.length_append, List.length_take]; show (_ + 1) * 1 ≤ _; omega) ?_
          conv => whnf
          rw [e0]
          refine ⟨(k + 1, row.take (row.length - 2) ++ [vb]), [(2, 4)], [], ?_, ⟨by show k + 1 ≤ f.length; omega, by rw [List.length_append, List.length_take]; show _ + 1 ≤ k + 1; omega, by rw [List.length_append, List.length_take]; show goR (_ + 1) _ = _; rw [show min (row.length - 2) row.length + 1 = row.length + 1 - 2 by omega]; exact hg, he⟩, by show f.length - (k + 1) < f.length - k; omega⟩
          repeat' (first | exact trivial | exact .inl (DLe.refl _) | exact .inl (DLe.nil _ _) | (refine .inr ⟨rfl, _, ?_, rfl⟩; rfl) | exact rfl | exact .inl rfl | exact .inr ⟨rfl, rfl, rfl, rfl⟩ | exact Nat.zero_le _ | constructor)
      rw [show decide (x.op = 12) = false from q] at he hg htk
      dsimp only at he hg htk
      conv => whnf
      refine Fork.intro (fun q => ?_) (fun q => ?_)
      · rw [show decide (x.op = 13) = true from q] at he hg htk
        dsimp only at he hg htk
        have e1 : IntKind.i64.wrap ((row.length : Int) - 1) = ((row.length - 1 : Nat) : Int) := by rw [IntWalk.i64_in _ (by omega)]; omega
        have gb := getB_at (l := row) (i := row.length - 1) (by omega)
        generalize row.getD (row.length - 1) false = vb at *
        conv => whnf
        rw [e1]
        refine ⟨rfl, ⟨by omega, by omega⟩, ?_⟩
        conv => whnf
        refine ⟨rfl, by omega, fun y hy => ?_⟩
        obtain rfl : vb = y := Option.some.inj (gb.symm.trans hy)
        conv => whnf
        refine ⟨rfl, ⟨by omega, by omega⟩, ?_⟩
        conv => whnf
        refine ⟨rfl, by omega, fun y hy => ?_⟩
        obtain rfl : vb = y := Option.some.inj (gb.symm.trans hy)
        refine ⟨rfl, !vb, rfl, ?_⟩
        conv => whnf
        rw [e0]
        refine ⟨(k + 1, row.set (row.length - 1) (!vb)), [], [], ?_, ⟨by show k + 1 ≤ f.length; omega, by rw [List.length_set]; show row.length ≤ k + 1; omega, by rw [List.length_set]; exact hg, he⟩, by show f.length - (k + 1) < f.length - k; omega⟩
        repeat' (first | exact trivial | exact .inl (DLe.refl _) | exact .inl (DLe.nil _ _) | (refine .inr ⟨rfl, _, ?_, rfl⟩; rfl) | exact rfl | exact .inl rfl | exact .inr ⟨rfl, rfl, rfl, rfl⟩ | exact Nat.zero_le _ | constructor)
      rw [show decide (x.op = 13) = false from q] at he hg htk
      dsimp only at he hg htk
      conv => whnf
      refine CallVC.pure (his x (List.mem_of_getElem? hx)) rfl ?_
      rintro _ rfl
      conv => whnf
      refine ⟨by decide, ?_⟩
      conv => whnf
      refine ⟨Bool, bE, row ++ [isb x], (by rw [List.map_append]; rfl), fun _ => rfl, by rw [List.length_append]; show row.length + 1 ≤ _; omega, by rw [List.length_append]; show (row.length + 1) * 1 ≤ _; omega, rfl, ?_⟩
      conv => whnf
      rw [e0]
      refine ⟨(k + 1, row ++ [isb x]), [(2, 4)], [], ?_, ⟨by show k + 1 ≤ f.length; omega, by rw [List.length_append]; show row.length + 1 ≤ k + 1; omega, by rw [List.length_append]; exact hg, he⟩, by show f.length - (k + 1) < f.length - k; omega⟩
      repeat' (first | exact trivial | exact .inl (DLe.refl _) | exact .inl (DLe.nil _ _) | (refine .inr ⟨rfl, _, ?_, rfl⟩; rfl) | exact rfl | exact .inl rfl | exact .inr ⟨rfl, rfl, rfl, rfl⟩ | exact Nat.zero_le _ | constructor)
    · have q1 : k = f.length := by have := of_decide_eq_false q1; omega
      rw [q1, List.drop_length, goR] at hg
      rw [q1, List.drop_length, evF] at he
      have hg : row.length = 1 := by injection hg
      rw [← he]
      have gb := getB_at (l := row) (i := 0) (by omega)
      generalize row.getD 0 false = vb at *
      conv => whnf
      refine ⟨rfl, ⟨by decide, by omega⟩, ?_⟩
      conv => whnf
      refine ⟨rfl, by omega, fun y hy => ?_⟩
      obtain rfl : vb = y := Option.some.inj (gb.symm.trans hy)
      conv => whnf
end Go.Proofs.Ytgodclgcfpmloaa.V
namespace Go.Proofs.Ytgodclgcfpmloaa.V
open Go.RowKit

theorem goR_cons {n : Nat} {x : FSt} {r : List FSt} {m : Nat} (h : goR n (x :: r) = some m) : bareB x = true ∧ takesN x.op ≤ n ∧ goR (n + 1 - takesN x.op) r = some m := by
  rw [goR] at h
  split at h
  · cases h
  · rename_i hb
    split at h
    · cases h
    · rename_i ht
      have ht := of_decide_eq_false ht
      exact ⟨hb, by omega, h⟩
theorem right_go {f : List FSt} (h : rightF f = true) : goR 0 f = some 1 ∧ 0 < f.length ∧ f.length ≤ 100 := by
  unfold rightF at h
  simp only [Bool.and_eq_true, decide_eq_true_eq] at h
  exact ⟨h.2, h.1.1, h.1.2⟩
abbrev opSt (n : Int) : FSt := ⟨n, 0, 0⟩
section
variable (p : Pkt) {f g : List FSt}
end
end Go.Proofs.Ytgodclgcfpmloaa.V
namespace Go.Proofs.Ytgodclgcfpmloaa.V
open Go.RowKit
attribute [local irreducible] Fn FnN FnR OpVC DLe

theorem fewO_fn (l : List Nat) (n : Nat) (hl : n ≤ 1000000) : Fn Try.prog 20 [octR l, intD n] fun d => d = octR (l.take n) := by
  refine fnOf [] Try.func20 rfl (by kernel_rfl) (Nat.le_of_ble_eq_true rfl) ?_
  conv => whnf
  refine Fork.intro (fun q => ?_) (fun q => ?_)
  · have q := of_decide_eq_true q
    conv => whnf
    refine ⟨rfl, ⟨by decide, by omega, by omega⟩, ?_⟩
    conv => whnf
    try rfl
  · have q := of_decide_eq_false q
    rw [List.take_of_length_le (by omega)]
    conv => whnf
def fewP (p : Pkt) : Pkt := { p with opts := p.opts.take 50, data := p.data.take 300 }
theorem fewP_ok {p : Pkt} (h : p.ok) : (fewP p).ok ∧ (fewP p).data.length ≤ 100000 ∧ (fewP p).opts.length ≤ 100000 :=
  ⟨⟨h.tos, h.id, h.off, h.ttl, h.proto, h.src, h.dst, fun c hc => h.opts c (List.mem_of_mem_take hc), fun c hc => h.data c (List.mem_of_mem_take hc)⟩, by show (p.data.take 300).length ≤ _; rw [List.length_take]; omega, by show (p.opts.take 50).length ≤ _; rw [List.length_take]; omega⟩
theorem few06_fn (p : Pkt) : Fn Try.prog 8 [.agg (pktD p)] fun d => d = .agg (pktD (fewP p)) := by
  refine fnOf [] Try.func8 rfl (by kernel_rfl) (Nat.le_of_ble_eq_true rfl) ?_
  have h1 := fewO_fn p.opts 50 (by decide)
  have h2 := fewO_fn p.data 300 (by decide)
  conv => whnf
  refine CallVC.pure h1 rfl ?_
  rintro _ rfl
  conv => whnf
  refine CallVC.pure h2 rfl ?_
  rintro _ rfl
  conv => whnf
  rfl
def stepsOk (f : List FSt) : Prop := ∀ x, x ∈ f → x.addr < 4294967296
end Go.Proofs.Ytgodclgcfpmloaa.V
