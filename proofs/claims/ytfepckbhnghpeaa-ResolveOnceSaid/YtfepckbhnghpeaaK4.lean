/-
  Bytes as numbers, numbers as bytes, pieces of bytes: the program's, by value. Conditions: bytes, not too many.
  Numbers as bytes, rows of bytes as one, ones sums: the program's, by value. Conditions: bytes, not too many.
  What UDP datagrams, TCP segments, ICMP messages are of bytes: the program's, by value. Conditions: bytes, not too many; numbers of their types.
  What a packet's data are: the program's, by value. Conditions: bytes, not too many; numbers of their types.
  The document's bytes of numbers, pieces, sums, heads: by value. Conditions: bytes, not too many; numbers of their types.
-/
import Derived.Test.YtfepckbhnghpeaaK3
import Derived.Test.YtfepckbhnghpeaaK1
namespace Go.Proofs.Ytfepckbhnghpeaa.V
open Go.RowKit
section
variable {P : Program}
theorem FnX {f : FuncId} {args : List D} {D0 : D} (h : Fn P f args fun d => DLe d D0) : Fn P f args fun d => d = D0 := by
  unfold Fn at *
  exact ⟨h.1, fun w B vs hB hr => (h.2 w B vs hB hr).mono fun e w' ⟨d, v, h1, h2, h3, h4⟩ => ⟨D0, v, rfl, h2, h3, h1 _ _ h4⟩⟩
theorem FnLe {f : FuncId} {args args' : List D} {Q : D → Prop} (h : Fn P f args Q) (hle : ∀ C vs, reps C args' vs → reps C args vs) : Fn P f args' Q := by
  unfold Fn at *
  exact ⟨h.1, fun w B vs hB hr => h.2 w B vs hB (hle _ _ hr)⟩
end
theorem fnROf {f : FuncId} {fn : Func} {c : Code} {args : List D} {α : Type} {el : TypeId} {e : Nat} {enc : α → List D} {L : List α} (pl : Plans) (hfn : Try.prog.funcs[f]? = some fn) (hc : fn.body = some c) (hok : codeOk pl fn.ntmps c = true) (hn : args.length ≤ fn.ntmps)
    (h : wpc Try.prog tt pl c ⟨enumD args 0, [], 0, ([], 0)⟩ fun x s => endK x (resK tt s fn.results.toList fun l => seeD (oneD l) fun d => rowAns s d α el e enc L)) : FnR Try.prog f args α el e enc L :=
  fnR_of_wpc ttH ebH mxH hfn hc hok hn h
theorem dleP {x y z : D} (h : DLe x y) : DLe (.tup [x, z]) (.tup [y, z]) := fun C v hv => by
  cases hv with
  | tup hs hh =>
    refine .tup hs fun j d u hd hu => ?_
    match j, hd with
    | 0, hd => injection hd with hd; subst hd; exact h _ _ (hh 0 x u rfl hu)
    | j + 1, hd => exact hh (j + 1) d u hd hu
attribute [local irreducible] Fn FnN FnR OpVC DLe

abbrev u16D (n : Int) : D := .v (.int .u16 n)
def octE (x : Nat) : List D := [u8D x]
abbrev octR (L : List Nat) : D := .rows Nat 1 octE L
theorem wrapN {n : Nat} (h : n ≤ 4000000000) : IntKind.i64.wrap ((n : Int) + 1) = ((n + 1 : Nat) : Int) := by rw [IntWalk.i64_in _ (by omega)]; omega
theorem wrapK {n k : Nat} (h : n ≤ 4000000000) (hk : k ≤ 4000000000) : IntKind.i64.wrap ((n : Int) + (k : Int)) = ((n + k : Nat) : Int) := by rw [IntWalk.i64_in _ (by omega)]; omega
theorem u16_wrap (n : Int) : IntKind.u16.wrap n = n % 65536 := by rw [IntKind.wrap]; rfl
theorem u64_wrap (n : Int) : IntKind.u64.wrap n = n % 18446744073709551616 := by rw [IntKind.wrap]; rfl
theorem octThere_fn (l : List Nat) (at_ n : Nat) (hl : l.length ≤ 1000000) (h1 : at_ ≤ 1000000) (h2 : n ≤ 1000000) : Fn Try.prog 75 [octR l, intD at_, intD n] fun d => d = boolD (decide (at_ + n ≤ l.length)) := by
  refine fnOf [] Try.func75 rfl (by kernel_rfl) (Nat.le_of_ble_eq_true rfl) ?_
  conv => whnf
  refine Fork.intro (fun g => ?_) (fun g => ?_)
  · have g := of_decide_eq_true g
    conv => whnf
    refine congrArg boolD (decide_eq_decide.2 ?_)
    rw [IntWalk.i64_in _ (by omega)]; omega
  · have g := of_decide_eq_false g
    conv => whnf
    exact congrArg boolD (decide_eq_false (by omega)).symm
theorem octClone_row (l : List Nat) (hlen : l.length ≤ 1000000) : FnR Try.prog 67 [octR l] Nat 5 1 octE l := by
  refine fnROf [] Try.func67 rfl (by kernel_rfl) (Nat.le_of_ble_eq_true rfl) ?_
  conv => whnf
  intro b hb
  conv => whnf
  refine Fork.intro (fun h1 => ?_) (fun h1 => ?_)
  · rw [hb h1]
    conv => whnf
  · conv => whnf
    refine ⟨Nat, octE, l, rfl, fun _ => rfl, by omega, by show l.length * 1 ≤ _; omega, rfl, ?_⟩
    conv => whnf
    exact ⟨fun _ => rfl, rfl⟩
end Go.Proofs.Ytfepckbhnghpeaa.V
namespace Go.Proofs.Ytfepckbhnghpeaa.V
open Go.RowKit
attribute [local irreducible] Fn FnN FnR OpVC DLe

theorem b4_wrap (x : Nat) : IntKind.u8.wrap ((x : Int).fdiv (2 ^ (min (24 : Int).toNat IntKind.u32.bits))) = ((x / 16777216 % 256 : Nat) : Int) ∧ IntKind.u8.wrap ((x : Int).fdiv (2 ^ (min (16 : Int).toNat IntKind.u32.bits))) = ((x / 65536 % 256 : Nat) : Int) ∧
    IntKind.u8.wrap ((x : Int).fdiv (2 ^ (min (8 : Int).toNat IntKind.u32.bits))) = ((x / 256 % 256 : Nat) : Int) ∧ IntKind.u8.wrap (x : Int) = ((x % 256 : Nat) : Int) := by
  refine ⟨?_, ?_, ?_, ?_⟩
  · rw [u8_wrap', show (x : Int).fdiv (2 ^ (min (24 : Int).toNat IntKind.u32.bits)) = ((x / 16777216 : Nat) : Int) from shr_at x 24]; omega
  · rw [u8_wrap', show (x : Int).fdiv (2 ^ (min (16 : Int).toNat IntKind.u32.bits)) = ((x / 65536 : Nat) : Int) from shr_at x 16]; omega
  · rw [u8_wrap', show (x : Int).fdiv (2 ^ (min (8 : Int).toNat IntKind.u32.bits)) = ((x / 256 : Nat) : Int) from shr_at x 8]; omega
  · rw [u8_wrap']; omega
theorem b2_wrap (x : Nat) : IntKind.u8.wrap ((x : Int).fdiv (2 ^ (min (8 : Int).toNat IntKind.u16.bits))) = ((x / 256 % 256 : Nat) : Int) ∧ IntKind.u8.wrap (x : Int) = ((x % 256 : Nat) : Int) := by
  refine ⟨?_, ?_⟩
  · rw [u8_wrap', show (x : Int).fdiv (2 ^ (min (8 : Int).toNat IntKind.u16.bits)) = ((x / 256 : Nat) : Int) from shr_at x 8]; omega
  · rw [u8_wrap']; omega
theorem octPut16_row (l : List Nat) (a : Nat) (hlen : l.length ≤ 1000000) : FnR Try.prog 57 [octR l, .lit 1 [[u16D a]]] Nat 5 1 octE (l ++ b2 a) := by
  refine fnROf [] Try.func57 rfl (by kernel_rfl) (Nat.le_of_ble_eq_true rfl) ?_
  obtain ⟨a1, a2⟩ := b2_wrap a
  conv => whnf
  refine CallVC.row (octClone_row l hlen) rfl ?_
  conv => whnf
  refine ⟨Nat, fun k => ⟨[(12, intD k), (11, intD 1), (10, .lit 1 [[u16D a]]), (5, .grow 0)], [(0, .grow Nat 5 1 octE (match k with | 0 => l | _ + 1 => l ++ b2 a))], 1, ([], 0)⟩, fun k => k ≤ 1, fun k => 1 - k, ⟨0, [], [], ?_, Nat.zero_le _⟩, ?_⟩
  · repeat' (first | exact trivial | exact .inl (DLe.refl _) | exact .inl (DLe.nil _ _) | (refine .inr ⟨rfl, _, ?_, rfl⟩; rfl) | exact rfl | exact .inl rfl | exact .inr ⟨rfl, rfl, rfl, rfl⟩ | exact Nat.zero_le _ | constructor)
  · intro k hk
    rcases (by have : k ≤ 1 := hk; omega : k = 0 ∨ k = 1) with rfl | rfl
    · conv => whnf
      refine ⟨rfl, ?_⟩
      conv => whnf
      refine ⟨by decide, ?_⟩
      conv => whnf
      rw [a1, a2]
      (refine ⟨Nat.le_of_ble_eq_true rfl, ?_⟩; conv => whnf)
      refine ⟨Nat, octE, l ++ b2 a, by rw [List.map_append]; rfl, fun _ => rfl, by rw [List.length_append]; show l.length + 2 ≤ _; omega, by rw [List.length_append]; show (l.length + 2) * 1 ≤ _; omega, rfl, ?_⟩
      conv => whnf
      refine ⟨1, [(0, 1)], [], ?_, by decide, by decide⟩
      repeat' (first | exact trivial | exact .inl (DLe.refl _) | exact .inl (DLe.nil _ _) | (refine .inr ⟨rfl, _, ?_, rfl⟩; rfl) | exact rfl | exact .inl rfl | exact .inr ⟨rfl, rfl, rfl, rfl⟩ | exact Nat.zero_le _ | constructor)
    · conv => whnf
      exact ⟨fun _ => rfl, rfl⟩
theorem join1_fn (a : List Nat) (ha : a.length ≤ 1000000) : Fn Try.prog 47 [.lit 1 [[octR a]]] fun d => d = octR a := by
  refine FnX (fnOf [] Try.func47 rfl (by kernel_rfl) (Nat.le_of_ble_eq_true rfl) ?_)
  conv => whnf
  refine ⟨Nat, fun k => ⟨[(8, intD k), (7, intD 1), (6, .lit 1 [[octR a]]), (3, .grow 0)], [(0, .grow Nat 5 1 octE (match k with | 0 => [] | _ + 1 => a))], 1, ([], 0)⟩, fun k => k ≤ 1, fun k => 1 - k, ⟨0, [], [0], ?_, Nat.zero_le _⟩, ?_⟩
  · repeat' (first | exact trivial | exact .inl (DLe.refl _) | exact .inl (DLe.nil _ _) | (refine .inr ⟨rfl, _, ?_, rfl⟩; rfl) | exact rfl | exact .inl rfl | exact .inr ⟨rfl, rfl, rfl, rfl⟩ | exact Nat.zero_le _ | constructor)
  intro k hk
  rcases (by have : k ≤ 1 := hk; omega : k = 0 ∨ k = 1) with rfl | rfl
  · conv => whnf
    refine ⟨rfl, ?_⟩
    conv => whnf
    refine ⟨Nat, octE, a, rfl, fun _ => rfl, by omega, by show a.length * 1 ≤ _; omega, rfl, ?_⟩
    conv => whnf
    refine ⟨1, [(0, 1)], [], ?_, by decide, by decide⟩
    repeat' (first | exact trivial | exact .inl (DLe.refl _) | exact .inl (DLe.nil _ _) | (refine .inr ⟨rfl, _, ?_, rfl⟩; rfl) | exact rfl | exact .inl rfl | exact .inr ⟨rfl, rfl, rfl, rfl⟩ | exact Nat.zero_le _ | constructor)
  · conv => whnf
    exact DLe.refl _
/-! ### Sums -/
abbrev u64O (n : Int) : D := .v (.int .u64 n)
theorem u64_small {n : Int} (h : 0 ≤ n ∧ n < 18446744073709551616) : IntKind.u64.wrap n = n := by rw [u64_wrap]; omega
theorem u64_low (x : Nat) (hx : x < 1000000000000) : IntKind.u64.wrap (((BitVec.ofInt IntKind.u64.bits (x : Int) &&& BitVec.ofInt IntKind.u64.bits 65535).toNat : Nat) : Int) = ((x % 65536 : Nat) : Int) := by
  have h : (BitVec.ofInt 64 (x : Int) &&& BitVec.ofInt 64 65535).toNat = x &&& 65535 := by
    rw [BitVec.toNat_and, BitVec.toNat_ofInt, BitVec.toNat_ofInt]
    congr 1; omega
  rw [show (BitVec.ofInt IntKind.u64.bits (x : Int) &&& BitVec.ofInt IntKind.u64.bits 65535).toNat = x &&& 65535 from h]
  rw [show x &&& 65535 = x % 65536 from Nat.and_two_pow_sub_one_eq_mod x 16]
  exact u64_small (by omega)
theorem fold_fn (n : Nat) (h : n < 1000000000000) : Fn Try.prog 82 [u64O n] fun d => d = u16D (foldN n) := by
  refine fnOf [] Try.func82 rfl (by kernel_rfl) (Nat.le_of_ble_eq_true rfl) ?_
  conv => whnf
  refine ⟨Nat, fun k => ⟨[(0, u64O k)], [], 0, ([], 0)⟩, fun k => k < 1000000000000 ∧ foldN k = foldN n, fun k => k, ⟨n, [], [], ?_, h, rfl⟩, ?_⟩
  · repeat' (first | exact trivial | exact .inl (DLe.refl _) | exact .inl (DLe.nil _ _) | (refine .inr ⟨rfl, _, ?_, rfl⟩; rfl) | exact rfl | exact .inl rfl | exact .inr ⟨rfl, rfl, rfl, rfl⟩ | exact Nat.zero_le _ | constructor)
  rintro k ⟨hk, hf⟩
  conv => whnf
  refine Fork.intro (fun h1 => ?_) (fun h1 => ?_)
  · have h1 : 65535 < k := by have := of_decide_eq_true h1; omega
    conv => whnf
    refine ⟨by decide, ?_⟩
    conv => whnf
    rw [u64_low k hk, show (k : Int).fdiv (2 ^ min (Int.toNat 16) IntKind.u64.bits) = ((k / 65536 : Nat) : Int) from shr_at k 16, show ((k / 65536 : Nat) : Int) + ((k % 65536 : Nat) : Int) = ((k / 65536 + k % 65536 : Nat) : Int) by omega, u64_small (n := ((k / 65536 + k % 65536 : Nat) : Int)) (by omega)]
    refine ⟨k / 65536 + k % 65536, [], [], ?_, ⟨by omega, (foldN_step h1).trans hf⟩, by show k / 65536 + k % 65536 < k; omega⟩
    repeat' (first | exact trivial | exact .inl (DLe.refl _) | exact .inl (DLe.nil _ _) | (refine .inr ⟨rfl, _, ?_, rfl⟩; rfl) | exact rfl | exact .inl rfl | exact .inr ⟨rfl, rfl, rfl, rfl⟩ | exact Nat.zero_le _ | constructor)
  · have h1 : ¬ 65535 < k := by have := of_decide_eq_false h1; omega
    conv => whnf
    rw [← hf, foldN_small (by omega), u16_wrap]
    show D.v (Value.int IntKind.u16 ((k : Int) % 65536)) = u16D k
    rw [show (k : Int) % 65536 = k by omega]
theorem onesA_fn (X : List (List D)) (l : List Nat) (hj : Fn Try.prog 47 [.lit 1 X] fun d => d = octR l) (hc : [D.lit 1 X].all (cutOk 6 0) = true) (hl : Byt l) (hlen : l.length ≤ 1000000) : Fn Try.prog 76 [.lit 1 X] fun d => d = u16D (onesL l) := by
  refine fnOf [] Try.func76 rfl (by kernel_rfl) (Nat.le_of_ble_eq_true rfl) ?_
  have hfo := fold_fn (smB true l) (by have := smB_le hl true; omega)
  have hsl := smB_le hl
  have hle : ∀ k, smB true (l.take k) ≤ 65280000000 := fun k => by
    have := smB_le (l := l.take k) (fun c hc => hl c (List.mem_of_mem_take hc)) true
    rw [List.length_take] at this
    omega
  conv => whnf
  refine CallVC.pure hj hc ?_
  rintro _ rfl
  conv => whnf
  refine ⟨Nat, fun k => ⟨[(9, intD k), (8, intD l.length), (7, octR l), (3, u64O (smB true (l.take k)))], [], 0, ([], 0)⟩, fun k => k ≤ l.length, fun k => l.length - k, ⟨0, [], [], ?_, Nat.zero_le _⟩, ?_⟩
  · repeat' (first | exact trivial | exact .inl (DLe.refl _) | exact .inl (DLe.nil _ _) | (refine .inr ⟨rfl, _, ?_, rfl⟩; rfl) | exact rfl | exact .inl rfl | exact .inr ⟨rfl, rfl, rfl, rfl⟩ | exact Nat.zero_le _ | constructor)
  intro k hk
  replace hk : k ≤ l.length := hk
  have e0 := wrapN (n := k) (by omega)
  have hlk := hle k
  conv => whnf
  refine Fork.intro (fun h1 => ?_) (fun h1 => ?_)
  · have h1 := of_decide_eq_true h1
    conv => whnf
    refine ⟨rfl, ⟨by omega, h1⟩, fun x hxx => ?_⟩
    have hxx : l[k]? = some x := hxx
    have hx256 := hl.get hxx
    have hn := smB_take hxx
    have e5 : IntKind.u64.wrap (x : Int) = (x : Int) := u64_small (by omega)
    have em : (k : Int).tmod 2 = ((k % 2 : Nat) : Int) := by rw [Int.tmod_eq_emod_of_nonneg (by omega)]; omega
    have es : IntKind.u64.wrap ((x : Int) * 2 ^ (min (8 : Int).toNat IntKind.u64.bits)) = ((x * 256 : Nat) : Int) := by
      show IntKind.u64.wrap ((x : Int) * 256) = _
      rw [u64_small (by omega)]; omega
    conv => whnf
    refine ⟨by decide, ?_⟩
    conv => whnf
    rw [em]
    refine Fork.intro (fun h2 => ?_) (fun h2 => ?_)
    · have h2 : k % 2 = 0 := by have := of_decide_eq_true h2; omega
      rw [if_pos h2] at hn
      conv => whnf
      refine ⟨by decide, ?_⟩
      conv => whnf
      rw [e5, es, show ((smB true (l.take k) : Nat) : Int) + ((x * 256 : Nat) : Int) = ((smB true (l.take (k + 1)) : Nat) : Int) by rw [hn]; omega, u64_small (n := ((smB true (l.take (k + 1)) : Nat) : Int)) (by have := hle (k + 1); omega), e0]
      refine ⟨k + 1, [], [], ?_, by show k + 1 ≤ l.length; omega, by show l.length - (k + 1) < l.length - k; omega⟩
      repeat' (first | exact trivial | exact .inl (DLe.refl _) | exact .inl (DLe.nil _ _) | (refine .inr ⟨rfl, _, ?_, rfl⟩; rfl) | exact rfl | exact .inl rfl | exact .inr ⟨rfl, rfl, rfl, rfl⟩ | exact Nat.zero_le _ | constructor)
    · have h2 : ¬ k % 2 = 0 := by have := of_decide_eq_false h2; omega
      rw [if_neg h2] at hn
      conv => whnf
      rw [e5, show ((smB true (l.take k) : Nat) : Int) + (x : Int) = ((smB true (l.take (k + 1)) : Nat) : Int) by rw [hn]; omega, u64_small (n := ((smB true (l.take (k + 1)) : Nat) : Int)) (by have := hle (k + 1); omega), e0]
      refine ⟨k + 1, [], [], ?_, by show k + 1 ≤ l.length; omega, by show l.length - (k + 1) < l.length - k; omega⟩
      repeat' (first | exact trivial | exact .inl (DLe.refl _) | exact .inl (DLe.nil _ _) | (refine .inr ⟨rfl, _, ?_, rfl⟩; rfl) | exact rfl | exact .inl rfl | exact .inr ⟨rfl, rfl, rfl, rfl⟩ | exact Nat.zero_le _ | constructor)
  · have h1 := of_decide_eq_false h1
    obtain rfl : k = l.length := by omega
    rw [List.take_length]
    conv => whnf
    refine CallVC.pure hfo rfl ?_
    rintro _ rfl
    conv => whnf
    rfl
end Go.Proofs.Ytfepckbhnghpeaa.V
namespace Go.Proofs.Ytfepckbhnghpeaa.V
open Go.RowKit
def LeL : List D → List D → Prop
  | [], [] => True
  | a :: l, b :: m => DLe a b ∧ LeL l m
  | _, _ => False
theorem LeL.len : ∀ {l m : List D}, LeL l m → l.length = m.length
  | [], [], _ => rfl
  | _ :: _, _ :: _, h => by simp [LeL.len h.2]
  | [], _ :: _, h => h.elim
  | _ :: _, [], h => h.elim
theorem LeL.at : ∀ {l m : List D}, LeL l m → ∀ (j : Nat) d, m[j]? = some d → ∃ c, l[j]? = some c ∧ DLe c d
  | [], [], _, j, d, hd => by simp at hd
  | a :: l, b :: m, h, j, d, hd => by
    cases j with
    | zero =>
      obtain rfl : b = d := by simpa using hd
      exact ⟨a, rfl, h.1⟩
    | succ j => simpa using LeL.at h.2 j d (by simpa using hd)
  | [], _ :: _, h, _, _, _ => h.elim
  | _ :: _, [], h, _, _, _ => h.elim
theorem dleAgg {l m : List D} (h : LeL l m) : DLe (.agg l) (.agg m) := fun C v hv => by
  cases hv with
  | agg hs hh =>
    refine .agg (hs.trans h.len) fun j d u hd hu => ?_
    obtain ⟨c, h1, h2⟩ := h.at j d hd
    exact h2 _ _ (hh j c u h1 hu)
theorem dleTup {l m : List D} (h : LeL l m) : DLe (.tup l) (.tup m) := fun C v hv => by
  cases hv with
  | tup hs hh =>
    refine .tup (hs.trans h.len) fun j d u hd hu => ?_
    obtain ⟨c, h1, h2⟩ := h.at j d hd
    exact h2 _ _ (hh j c u h1 hu)
attribute [local irreducible] Fn FnN FnR OpVC DLe

end Go.Proofs.Ytfepckbhnghpeaa.V
namespace Go.Proofs.Ytfepckbhnghpeaa.V
open Go.RowKit
attribute [local irreducible] Fn FnN FnR OpVC DLe

structure Pkt where
  tos : Nat
  id : Nat
  df : Bool
  mf : Bool
  off : Nat
  ttl : Nat
  proto : Nat
  src : Nat
  dst : Nat
  opts : List Nat
  data : List Nat
structure Pkt.ok (p : Pkt) : Prop where
  tos : p.tos < 256
  id : p.id < 65536
  off : p.off < 65536
  ttl : p.ttl < 256
  proto : p.proto < 256
  src : p.src < 4294967296
  dst : p.dst < 4294967296
  opts : Byt p.opts
  data : Byt p.data
def pktD (p : Pkt) : List D := [u8D p.tos, u16D p.id, boolD p.df, boolD p.mf, u16D p.off, u8D p.ttl, u8D p.proto, u32D p.src, u32D p.dst, octR p.opts, octR p.data]

end Go.Proofs.Ytfepckbhnghpeaa.V
namespace Go.Proofs.Ytfepckbhnghpeaa.V
open Go.RowKit
attribute [local irreducible] Fn FnN FnR OpVC DLe

def bigL : Nat → Nat → List Nat
  | 0, _ => []
  | k + 1, n => bigL k (n / 256) ++ [n % 256]
theorem bigL_four (n : Nat) : bigL 4 n = b4 n := by
  simp only [bigL, b4, List.nil_append, List.cons_append, List.cons.injEq, and_true]
  omega
theorem dgN (x : Nat) (hx : x < 4294967296) : IntKind.u8.wrap ((x : Int).tmod 256) = ((x % 256 : Nat) : Int) ∧ IntKind.u32.wrap ((x : Int).tdiv 256) = ((x / 256 : Nat) : Int) ∧ x / 256 < 4294967296 := by
  have h1 : (x : Int).tmod 256 = ((x % 256 : Nat) : Int) := by rw [Int.tmod_eq_emod_of_nonneg (by omega)]; omega
  have h2 : (x : Int).tdiv 256 = ((x / 256 : Nat) : Int) := by rw [Int.tdiv_eq_ediv_of_nonneg (by omega)]; omega
  rw [h1, h2, u8_small (by omega), u32_small (by omega)]
  exact ⟨rfl, rfl, by omega⟩
theorem rPut_fn (n s : Nat) (hn : n < 4294967296) (hs : 0 < s ∧ s ≤ 8) : Fn Try.prog 60 [u32D n, intD s] fun d => d = octR (bigL s n) := by
  refine fnOf [] Try.func60 rfl (by kernel_rfl) (Nat.le_of_ble_eq_true rfl) ?_
  conv => whnf
  refine op_makeSlice (n := (s : Int)) (β := Nat) (enc := octE) (zz := 0) ttH rfl rfl rfl rfl rfl (by decide) rfl ⟨by omega, by omega, by show (s : Int) * 1 ≤ _; omega⟩ rfl ?_
  conv => whnf
  refine ⟨Nat × Nat × List Nat, fun p => ⟨[(6, intD p.1), (5, .grow 0), (1, intD s), (0, u32D p.2.1)], [(0, .grow Nat 5 1 octE (List.replicate (s - p.1) 0 ++ p.2.2))], 1, ([], 0)⟩,
    fun p => p.1 ≤ s ∧ p.2.2.length = p.1 ∧ p.2.1 < 4294967296 ∧ bigL (s - p.1) p.2.1 ++ p.2.2 = bigL s n, fun p => s - p.1, ⟨(0, n, []), [], [], ?_, Nat.zero_le _, rfl, hn, List.append_nil _⟩, ?_⟩
  · refine ⟨?_, ?_, ?_⟩
    · repeat' (first | exact trivial | exact .inl (DLe.refl _) | exact .inl (DLe.nil _ _) | (refine .inr ⟨rfl, _, ?_, rfl⟩; rfl) | exact rfl | exact .inl rfl | exact .inr ⟨rfl, rfl, rfl, rfl⟩ | exact Nat.zero_le _ | constructor)
    · refine ⟨⟨rfl, .inl ?_⟩, trivial⟩
      show LO.grow Nat _ 1 octE (List.replicate (Int.toNat s) 0) = LO.grow Nat _ 1 octE (List.replicate s 0 ++ [])
      rw [List.append_nil]; rfl
    · repeat' (first | exact trivial | exact .inl (DLe.refl _) | exact .inl (DLe.nil _ _) | (refine .inr ⟨rfl, _, ?_, rfl⟩; rfl) | exact rfl | exact .inl rfl | exact .inr ⟨rfl, rfl, rfl, rfl⟩ | exact Nat.zero_le _ | constructor)
  rintro ⟨k, m, T⟩ ⟨hk, hT, hm, he⟩
  dsimp only at hk hT hm he
  obtain ⟨d1, d2, d3⟩ := dgN m hm
  have e0 := wrapN (n := k) (by omega)
  conv => whnf
  refine Fork.intro (fun q => ?_) (fun q => ?_)
  · have q : k < s := by have := of_decide_eq_true q; omega
    have e1 : IntKind.i64.wrap (IntKind.i64.wrap ((s : Int) - 1) - (k : Int)) = ((s - 1 - k : Nat) : Int) := by
      rw [IntWalk.i64_in ((s : Int) - 1) (by omega), IntWalk.i64_in _ (by omega)]; omega
    have hlen : (List.replicate (s - k) 0 ++ T).length = s := by rw [List.length_append, List.length_replicate]; omega
    have hset : (List.replicate (s - k) 0 ++ T).set (s - 1 - k) (m % 256) = List.replicate (s - (k + 1)) 0 ++ m % 256 :: T := by
      rw [List.set_append_left _ _ (by rw [List.length_replicate]; omega), show s - k = (s - (k + 1)) + 1 by omega, List.replicate_succ', List.set_append_right _ _ (by rw [List.length_replicate]; omega), List.length_replicate, show s - 1 - k - (s - (k + 1)) = 0 by omega, List.append_assoc]
      rfl
    generalize hrow : List.replicate (s - k) 0 ++ T = row at *
    conv => whnf
    refine ⟨by decide, ?_⟩
    conv => whnf
    rw [e1]
    refine ⟨rfl, ⟨by omega, by rw [hlen]; omega⟩, ?_⟩
    conv => whnf
    refine ⟨rfl, by rw [hlen]; show s - 1 - k < s; omega, fun x hx => ?_⟩
    conv => whnf
    refine ⟨rfl, m % 256, (by show octE (m % 256) = [u8D (IntKind.u8.wrap ((m : Int).tmod 256))]; rw [d1]; rfl), ?_⟩
    rw [show row.set (Int.toNat ((s - 1 - k : Nat) : Int)) (m % 256) = List.replicate (s - (k + 1)) 0 ++ m % 256 :: T from hset]
    conv => whnf
    refine ⟨by decide, ?_⟩
    conv => whnf
    rw [d2, e0]
    refine ⟨(k + 1, m / 256, m % 256 :: T), [], [], ?_, ⟨by show k + 1 ≤ s; omega, by show T.length + 1 = k + 1; omega, d3, ?_⟩, by show s - (k + 1) < s - k; omega⟩
    · repeat' (first | exact trivial | exact .inl (DLe.refl _) | exact .inl (DLe.nil _ _) | (refine .inr ⟨rfl, _, ?_, rfl⟩; rfl) | exact rfl | exact .inl rfl | exact .inr ⟨rfl, rfl, rfl, rfl⟩ | exact Nat.zero_le _ | constructor)
    · show bigL (s - (k + 1)) (m / 256) ++ m % 256 :: T = _
      rw [← he, show s - k = s - (k + 1) + 1 by omega, bigL, List.append_assoc]
      rfl
  · have q : k = s := by have := of_decide_eq_false q; omega
    subst q
    rw [Nat.sub_self] at he
    have he : T = bigL k n := he
    conv => whnf
    show octR (List.replicate (k - k) 0 ++ T) = octR (bigL k n)
    rw [Nat.sub_self, he]; rfl
theorem rAdd_fn (a b : List Nat) (ha : a.length ≤ 1000000) (hb : b.length ≤ 1000000) : Fn Try.prog 40 [octR a, octR b] fun d => d = octR (a ++ b) := by
  refine fnOf [] Try.func40 rfl (by kernel_rfl) (Nat.le_of_ble_eq_true rfl) ?_
  have hl : (a ++ b).length ≤ 2000000 := by rw [List.length_append]; omega
  conv => whnf
  refine ⟨Nat, octE, a, rfl, fun _ => rfl, by omega, (by show a.length * 1 ≤ _; omega), rfl, ?_⟩
  conv => whnf
  refine ⟨Nat, octE, a ++ b, List.map_append, fun _ => rfl, by omega, (by show (a ++ b).length * 1 ≤ _; omega), rfl, ?_⟩
  conv => whnf
theorem rGet2_fn (l : List Nat) (at_ : Nat) (hl : Byt l) (hlen : l.length ≤ 1000000) (h1 : at_ + 2 ≤ l.length) : Fn Try.prog 36 [octR l, intD at_, intD 2] fun d => d = .tup [u32D (get16 l at_), boolD true] := by
  refine fnOf [] Try.func36 rfl (by kernel_rfl) (Nat.le_of_ble_eq_true rfl) ?_
  have e1 : IntKind.i64.wrap ((l.length : Int) - (at_ : Int)) = ((l.length - at_ : Nat) : Int) := by rw [IntWalk.i64_in _ (by omega)]; omega
  have hd : ((l.drop at_).take 2).length = 2 := by rw [List.length_take, List.length_drop]; omega
  unfold get16 getW
  rw [decide_eq_true h1]
  dsimp only
  conv => whnf
  refine Fork.intro (fun q => absurd (of_decide_eq_true q) (by omega)) (fun _ => ?_)
  conv => whnf
  rw [e1]
  refine Fork.intro (fun q => absurd (of_decide_eq_true q) (by omega)) (fun _ => ?_)
  conv => whnf
  refine ⟨Nat, fun k => ⟨[(9, intD k), (8, u32D (bnum (((l.drop at_).take 2).take k))), (2, intD 2), (1, intD at_), (0, octR l)], [], 0, ([], 0)⟩, fun k => k ≤ 2, fun k => 2 - k, ⟨0, [], [], ?_, Nat.zero_le _⟩, ?_⟩
  · repeat' (first | exact trivial | exact .inl (DLe.refl _) | exact .inl (DLe.nil _ _) | (refine .inr ⟨rfl, _, ?_, rfl⟩; rfl) | exact rfl | exact .inl rfl | exact .inr ⟨rfl, rfl, rfl, rfl⟩ | exact Nat.zero_le _ | constructor)
  intro k hk
  replace hk : k ≤ 2 := hk
  have e0 := wrapN (n := k) (by omega)
  have e2 : IntKind.i64.wrap ((at_ : Int) + (k : Int)) = ((at_ + k : Nat) : Int) := wrapK (by omega) (by omega)
  conv => whnf
  refine Fork.intro (fun q => ?_) (fun q => ?_)
  · have q : k < 2 := by have := of_decide_eq_true q; omega
    conv => whnf
    rw [e2]
    refine ⟨rfl, ⟨by omega, by omega⟩, fun x hx => ?_⟩
    have hx : l[at_ + k]? = some x := hx
    have hx256 := hl.get hx
    have hx2 : ((l.drop at_).take 2)[k]? = some x := by rw [List.getElem?_take, if_pos q, List.getElem?_drop]; exact hx
    have hb := bnum_take hx2
    have hlt := bnum_lt (((l.drop at_).take 2).take k)
    have hw : IntKind.u32.wrap (IntKind.u32.wrap ((bnum (((l.drop at_).take 2).take k) : Int) * 256) + IntKind.u32.wrap (x : Int)) = (((bnum (((l.drop at_).take 2).take k) * 256 + x) % 4294967296 : Nat) : Int) := by
      rw [u32_wrap, u32_wrap, u32_wrap]; omega
    conv => whnf
    rw [hw, ← hb, e0]
    refine ⟨k + 1, [], [], ?_, by show k + 1 ≤ 2; omega, by show 2 - (k + 1) < 2 - k; omega⟩
    repeat' (first | exact trivial | exact .inl (DLe.refl _) | exact .inl (DLe.nil _ _) | (refine .inr ⟨rfl, _, ?_, rfl⟩; rfl) | exact rfl | exact .inl rfl | exact .inr ⟨rfl, rfl, rfl, rfl⟩ | exact Nat.zero_le _ | constructor)
  · have q : k = 2 := by have := of_decide_eq_false q; omega
    subst q
    rw [List.take_of_length_le (by omega)]
    conv => whnf
    have hx : bnum ((l.drop at_).take 2) % 65536 = bnum ((l.drop at_).take 2) := by
      refine Nat.mod_eq_of_lt ?_
      match (l.drop at_).take 2, hd, (fun c hc => hl c (List.mem_of_mem_drop (List.mem_of_mem_take hc)) : Byt ((l.drop at_).take 2)) with
      | [a, b], _, h =>
        have h1 := h a (by simp)
        have h2 := h b (by simp)
        show ((0 * 256 + a) % 4294967296 * 256 + b) % 4294967296 < 65536
        omega
    rw [hx]
    rfl
theorem rCut_fn (l : List Nat) (at_ n : Nat) (hlen : l.length ≤ 1000000) (h1 : at_ + n ≤ l.length) : Fn Try.prog 37 [octR l, intD at_, intD n] fun d => d = .tup [octR (cutP l at_ n), boolD true] := by
  refine FnX (fnOf [] Try.func37 rfl (by kernel_rfl) (Nat.le_of_ble_eq_true rfl) ?_)
  have e1 : IntKind.i64.wrap ((l.length : Int) - (at_ : Int)) = ((l.length - at_ : Nat) : Int) := by rw [IntWalk.i64_in _ (by omega)]; omega
  have hd : ((l.drop at_).take n).length = n := by rw [List.length_take, List.length_drop]; omega
  unfold cutP
  rw [decide_eq_true h1]
  dsimp only
  conv => whnf
  refine Fork.intro (fun q => absurd (of_decide_eq_true q) (by omega)) (fun _ => ?_)
  conv => whnf
  rw [e1]
  refine Fork.intro (fun q => absurd (of_decide_eq_true q) (by omega)) (fun _ => ?_)
  conv => whnf
  refine ⟨Nat, fun k => ⟨[(9, intD k), (8, .grow 0), (2, intD n), (1, intD at_), (0, octR l)], [(0, .grow Nat 5 1 octE (((l.drop at_).take n).take k))], 1, ([], 0)⟩, fun k => k ≤ n, fun k => n - k, ⟨0, [], [], ?_, Nat.zero_le _⟩, ?_⟩
  · repeat' (first | exact trivial | exact .inl (DLe.refl _) | exact .inl (DLe.nil _ _) | (refine .inr ⟨rfl, _, ?_, rfl⟩; rfl) | exact rfl | exact .inl rfl | exact .inr ⟨rfl, rfl, rfl, rfl⟩ | exact Nat.zero_le _ | constructor)
  intro k hk
  replace hk : k ≤ n := hk
  have e0 := wrapN (n := k) (by omega)
  have e2 : IntKind.i64.wrap ((at_ : Int) + (k : Int)) = ((at_ + k : Nat) : Int) := wrapK (by omega) (by omega)
  conv => whnf
  refine Fork.intro (fun q => ?_) (fun q => ?_)
  · have q : k < n := by have := of_decide_eq_true q; omega
    conv => whnf
    rw [e2]
    refine ⟨rfl, ⟨by omega, by omega⟩, fun x hx => ?_⟩
    have hx : l[at_ + k]? = some x := hx
    have hx2 : ((l.drop at_).take n)[k]? = some x := by rw [List.getElem?_take, if_pos q, List.getElem?_drop]; exact hx
    have ht : ((l.drop at_).take n).take (k + 1) = ((l.drop at_).take n).take k ++ [x] := by rw [List.take_add_one, hx2]; rfl
    have hk2 : (((l.drop at_).take n).take (k + 1)).length ≤ 1000000 := by rw [List.length_take]; omega
    conv => whnf
    (refine ⟨Nat.le_of_ble_eq_true rfl, ?_⟩; conv => whnf)
    refine ⟨Nat, octE, ((l.drop at_).take n).take (k + 1), by rw [ht, List.map_append]; rfl, fun _ => rfl, by omega, (by show _ * 1 ≤ _; omega), rfl, ?_⟩
    conv => whnf
    rw [e0]
    refine ⟨k + 1, [(0, 1)], [], ?_, by show k + 1 ≤ n; omega, by show n - (k + 1) < n - k; omega⟩
    repeat' (first | exact trivial | exact .inl (DLe.refl _) | exact .inl (DLe.nil _ _) | (refine .inr ⟨rfl, _, ?_, rfl⟩; rfl) | exact rfl | exact .inl rfl | exact .inr ⟨rfl, rfl, rfl, rfl⟩ | exact Nat.zero_le _ | constructor)
  · have q : k = n := by have := of_decide_eq_false q; omega
    subst q
    rw [List.take_of_length_le (by omega)]
    conv => whnf
    exact DLe.refl _
end Go.Proofs.Ytfepckbhnghpeaa.V
