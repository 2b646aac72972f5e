/-
  Bytes as numbers, numbers as bytes, pieces of bytes: the program's, by value. Conditions: bytes, not too many.
  Numbers as bytes, rows of bytes as one, ones sums: the program's, by value. Conditions: bytes, not too many.
  What UDP datagrams, TCP segments, ICMP messages are of bytes: the program's, by value. Conditions: bytes, not too many; numbers of their types.
  What TCP segments, ICMP messages are of bytes: the program's, by value. Conditions: bytes, not too many; numbers of their types.
  What a packet's data are: the program's, by value. Conditions: bytes, not too many; numbers of their types.
  The document's bytes of numbers, pieces, sums, heads: by value. Conditions: bytes, not too many; numbers of their types.
-/
import Derived.Test.YtgodclgcfpmloaaGreatDoorK2
import Derived.Test.YtgodclgcfpmloaaGreatDoorK3
import Derived.Test.YtgodclgcfpmloaaGreatDoorK1
import Derived.Test.YtgodclgcfpmloaaGreatDoorK4
namespace Go.Proofs.YtgodclgcfpmloaaGreatDoor.V
open Go.RowKit
section
variable {P : Program}
theorem FnX {f : FuncId} {args : List D} {D0 : D} (h : Fn P f args fun d => DLe d D0) : Fn P f args fun d => d = D0 := by
  unfold Fn at *
  exact ⟨h.1, fun w B vs hB hr => (h.2 w B vs hB hr).mono fun e w' ⟨d, v, h1, h2, h3, h4⟩ => ⟨D0, v, rfl, h2, h3, h1 _ _ h4⟩⟩
theorem FnLe {f : FuncId} {args args' : List D} {Q : D → Prop} (h : Fn P f args Q) (hle : ∀ C vs, reps C args' vs → reps C args vs) : Fn P f args' Q := by
  unfold Fn at *
  exact ⟨h.1, fun w B vs hB hr => h.2 w B vs hB (hle _ _ hr)⟩
end
theorem fnROf {f : FuncId} {fn : Func} {c : Code} {args : List D} {α : Type} {el : TypeId} {e : Nat} {enc : α → List D} {L : List α} (pl : Plans) (hfn : Tryz.prog.funcs[f]? = some fn) (hc : fn.body = some c) (hok : codeOk pl fn.ntmps c = true) (hn : args.length ≤ fn.ntmps)
    (h : wpc Tryz.prog tt pl c ⟨enumD args 0, [], 0, ([], 0)⟩ fun x s => endK x (resK tt s fn.results.toList fun l => seeD (oneD l) fun d => rowAns s d α el e enc L)) : FnR Tryz.prog f args α el e enc L :=
  fnR_of_wpc ttH ebH mxH hfn hc hok hn h
theorem dleP {x y z : D} (h : DLe x y) : DLe (.tup [x, z]) (.tup [y, z]) := fun C v hv => by
  cases hv with
  | tup hs hh =>
    refine .tup hs fun j d u hd hu => ?_
    match j, hd with
    | 0, hd => injection hd with hd; subst hd; exact h _ _ (hh 0 x u rfl hu)
    | j + 1, hd => exact hh (j + 1) d u hd hu
attribute [local irreducible] Fn FnN FnR OpVC DLe

abbrev u16D (n : Int) : D := .v (.int .u16 n)
def octE (x : Nat) : List D := [u8D x]
abbrev octR (L : List Nat) : D := .rows Nat 1 octE L
theorem wrapN {n : Nat} (h : n ≤ 4000000000) : IntKind.i64.wrap ((n : Int) + 1) = ((n + 1 : Nat) : Int) := by rw [IntWalk.i64_in _ (by omega)]; omega
theorem wrapK {n k : Nat} (h : n ≤ 4000000000) (hk : k ≤ 4000000000) : IntKind.i64.wrap ((n : Int) + (k : Int)) = ((n + k : Nat) : Int) := by rw [IntWalk.i64_in _ (by omega)]; omega
theorem u16_wrap (n : Int) : IntKind.u16.wrap n = n % 65536 := by rw [IntKind.wrap]; rfl
theorem u64_wrap (n : Int) : IntKind.u64.wrap n = n % 18446744073709551616 := by rw [IntKind.wrap]; rfl
theorem u32_oct (a n : Nat) (ha : a < 4294967296) (hn : n < 256) : IntKind.u32.wrap (((BitVec.ofInt IntKind.u32.bits (IntKind.u32.wrap ((a : Int) * 2 ^ (min (8 : Int).toNat IntKind.u32.bits))) ||| BitVec.ofInt IntKind.u32.bits (IntKind.u32.wrap (n : Int))).toNat : Nat) : Int) = (((a * 256 + n) % 4294967296 : Nat) : Int) := by
  have e : IntKind.u32.wrap ((a : Int) * 2 ^ (min (8 : Int).toNat IntKind.u32.bits)) = IntKind.u32.wrap (((a % 16777216 : Nat) : Int) * 2 ^ (min (8 : Int).toNat IntKind.u32.bits)) := by
    show IntKind.u32.wrap ((a : Int) * 256) = IntKind.u32.wrap (((a % 16777216 : Nat) : Int) * 256)
    rw [u32_wrap, u32_wrap]; omega
  rw [e, u32_small (n := (n : Int)) (by omega), u32_put _ n (Nat.mod_lt _ (by decide)) hn]
  congr 1; omega

theorem octThere_fn (l : List Nat) (at_ n : Nat) (hl : l.length ≤ 1000000) (h1 : at_ ≤ 1000000) (h2 : n ≤ 1000000) : Fn Tryz.prog 104 [octR l, intD at_, intD n] fun d => d = boolD (decide (at_ + n ≤ l.length)) := by
  refine fnOf [] Tryz.func104 rfl (by kernel_rfl) (Nat.le_of_ble_eq_true rfl) ?_
  conv => whnf
  refine Fork.intro (fun g => ?_) (fun g => ?_)
  · have g := of_decide_eq_true g
    conv => whnf
    refine congrArg boolD (decide_eq_decide.2 ?_)
    rw [IntWalk.i64_in _ (by omega)]; omega
  · have g := of_decide_eq_false g
    conv => whnf
    exact congrArg boolD (decide_eq_false (by omega)).symm
theorem octNum_fn (l : List Nat) (hl : Byt l) (hlen : l.length ≤ 1000000) : Fn Tryz.prog 105 [octR l] fun d => d = u32D (bnum l) := by
  refine fnOf [] Tryz.func105 rfl (by kernel_rfl) (Nat.le_of_ble_eq_true rfl) ?_
  conv => whnf
  refine ⟨Nat, fun k => ⟨[(8, intD k), (7, intD l.length), (6, octR l), (3, u32D (bnum (l.take k)))], [], 0, ([], 0)⟩, fun k => k ≤ l.length, fun k => l.length - k, ⟨0, [], [], ?_, Nat.zero_le _⟩, ?_⟩
  · repeat' (first | exact trivial | exact .inl (DLe.refl _) | exact .inl (DLe.nil _ _) | (refine .inr ⟨rfl, _, ?_, rfl⟩; rfl) | exact rfl | exact .inl rfl | exact .inr ⟨rfl, rfl, rfl, rfl⟩ | exact Nat.zero_le _ | constructor)
  intro k hk
  replace hk : k ≤ l.length := hk
  have e0 := wrapN (n := k) (by omega)
  conv => whnf
  refine Fork.intro (fun h1 => ?_) (fun h1 => ?_)
  · have h1 := of_decide_eq_true h1
    conv => whnf
    refine ⟨rfl, ⟨by omega, h1⟩, fun x hxx => ?_⟩
    have hxx : l[k]? = some x := hxx
    have hx256 := hl.get hxx
    have hn := bnum_take hxx
    have hs := u32_oct (bnum (l.take k)) x (bnum_lt _) hx256
    conv => whnf
    refine ⟨by decide, ?_⟩
    conv => whnf
    rw [hs, e0, ← hn]
    refine ⟨k + 1, [], [], ?_, by show k + 1 ≤ l.length; omega, by show l.length - (k + 1) < l.length - k; omega⟩
    repeat' (first | exact trivial | exact .inl (DLe.refl _) | exact .inl (DLe.nil _ _) | (refine .inr ⟨rfl, _, ?_, rfl⟩; rfl) | exact rfl | exact .inl rfl | exact .inr ⟨rfl, rfl, rfl, rfl⟩ | exact Nat.zero_le _ | constructor)
  · have h1 := of_decide_eq_false h1
    obtain rfl : k = l.length := by omega
    rw [List.take_length]
    conv => whnf
theorem octGet32_fn (l : List Nat) (at_ : Nat) (hl : Byt l) (hlen : l.length ≤ 1000000) (h1 : at_ ≤ 1000) : Fn Tryz.prog 85 [octR l, intD at_] fun d => d = .tup [u32D (get32 l at_), boolD (decide (at_ + 4 ≤ l.length))] := by
  refine fnOf [] Tryz.func85 rfl (by kernel_rfl) (Nat.le_of_ble_eq_true rfl) ?_
  have ht := octThere_fn l at_ 4 hlen (by omega) (by decide)
  unfold get32 getW
  conv => whnf
  refine CallVC.pure ht rfl ?_
  rintro _ rfl
  cases h : decide (at_ + 4 ≤ l.length) with
  | false =>
    conv => whnf
    rfl
  | true =>
    have h := of_decide_eq_true h
    have e : IntKind.i64.wrap ((at_ : Int) + 4) = ((at_ + 4 : Nat) : Int) := wrapK (k := 4) (by omega) (by decide)
    have hnum := octNum_fn ((l.drop at_).take 4) (by
      intro c hc; exact hl c (List.mem_of_mem_drop (List.mem_of_mem_take hc))) (by rw [List.length_take]; omega)
    have ed : (l.take (at_ + 4)).drop at_ = (l.drop at_).take 4 := by rw [List.drop_take]; congr 1; omega
    conv => whnf
    rw [e]
    refine ⟨rfl, ⟨by omega, by omega, by omega⟩, ?_⟩
    rw [show (l.take (((at_ + 4 : Nat) : Int)).toNat).drop ((at_ : Int)).toNat = (l.drop at_).take 4 from ed]
    conv => whnf
    refine CallVC.pure hnum rfl ?_
    rintro _ rfl
    conv => whnf
    rfl
theorem octGet16_fn (l : List Nat) (at_ : Nat) (hl : Byt l) (hlen : l.length ≤ 1000000) (h1 : at_ ≤ 1000) : Fn Tryz.prog 81 [octR l, intD at_] fun d => d = .tup [u16D (get16 l at_), boolD (decide (at_ + 2 ≤ l.length))] := by
  refine fnOf [] Tryz.func81 rfl (by kernel_rfl) (Nat.le_of_ble_eq_true rfl) ?_
  have ht := octThere_fn l at_ 2 hlen (by omega) (by decide)
  unfold get16 getW
  conv => whnf
  refine CallVC.pure ht rfl ?_
  rintro _ rfl
  cases h : decide (at_ + 2 ≤ l.length) with
  | false =>
    conv => whnf
    rfl
  | true =>
    have h := of_decide_eq_true h
    have e : IntKind.i64.wrap ((at_ : Int) + 2) = ((at_ + 2 : Nat) : Int) := wrapK (k := 2) (by omega) (by decide)
    have hnum := octNum_fn ((l.drop at_).take 2) (by
      intro c hc; exact hl c (List.mem_of_mem_drop (List.mem_of_mem_take hc))) (by rw [List.length_take]; omega)
    have ed : (l.take (at_ + 2)).drop at_ = (l.drop at_).take 2 := by rw [List.drop_take]; congr 1; omega
    have e2 : IntKind.u16.wrap ((bnum ((l.drop at_).take 2) : Nat) : Int) = ((bnum ((l.drop at_).take 2) % 65536 : Nat) : Int) := by rw [u16_wrap]; omega
    conv => whnf
    rw [e]
    refine ⟨rfl, ⟨by omega, by omega, by omega⟩, ?_⟩
    rw [show (l.take (((at_ + 2 : Nat) : Int)).toNat).drop ((at_ : Int)).toNat = (l.drop at_).take 2 from ed]
    conv => whnf
    refine CallVC.pure hnum rfl ?_
    rintro _ rfl
    conv => whnf
    rw [e2]
    rfl
theorem octClone_fn (l : List Nat) (hlen : l.length ≤ 1000000) : Fn Tryz.prog 106 [octR l] fun d => d = octR l := by
  refine FnX (fnOf [] Tryz.func106 rfl (by kernel_rfl) (Nat.le_of_ble_eq_true rfl) ?_)
  conv => whnf
  intro b hb
  conv => whnf
  refine Fork.intro (fun h1 => ?_) (fun h1 => ?_)
  · rw [hb h1]
    conv => whnf
    exact DLe.nil _ _
  · conv => whnf
    refine ⟨Nat, octE, l, rfl, fun _ => rfl, by omega, by show l.length * 1 ≤ _; omega, rfl, ?_⟩
    conv => whnf
    exact DLe.refl _
theorem octClone_row (l : List Nat) (hlen : l.length ≤ 1000000) : FnR Tryz.prog 106 [octR l] Nat 5 1 octE l := by
  refine fnROf [] Tryz.func106 rfl (by kernel_rfl) (Nat.le_of_ble_eq_true rfl) ?_
  conv => whnf
  intro b hb
  conv => whnf
  refine Fork.intro (fun h1 => ?_) (fun h1 => ?_)
  · rw [hb h1]
    conv => whnf
  · conv => whnf
    refine ⟨Nat, octE, l, rfl, fun _ => rfl, by omega, by show l.length * 1 ≤ _; omega, rfl, ?_⟩
    conv => whnf
    exact ⟨fun _ => rfl, rfl⟩
theorem octCut_fn (l : List Nat) (at_ n : Nat) (hlen : l.length ≤ 1000000) (h1 : at_ ≤ 1000000) (h2 : n ≤ 1000000) : Fn Tryz.prog 82 [octR l, intD at_, intD n] fun d => d = .tup [octR (cutP l at_ n), boolD (decide (at_ + n ≤ l.length))] := by
  refine FnX (fnOf [] Tryz.func82 rfl (by kernel_rfl) (Nat.le_of_ble_eq_true rfl) ?_)
  have ht := octThere_fn l at_ n hlen h1 h2
  unfold cutP
  conv => whnf
  refine CallVC.pure ht rfl ?_
  rintro _ rfl
  cases h : decide (at_ + n ≤ l.length) with
  | false =>
    conv => whnf
    exact dleP (DLe.nil _ _)
  | true =>
    have h := of_decide_eq_true h
    have e : IntKind.i64.wrap ((at_ : Int) + (n : Int)) = ((at_ + n : Nat) : Int) := wrapK (by omega) (by omega)
    have hc := octClone_fn ((l.drop at_).take n) (by rw [List.length_take, List.length_drop]; omega)
    have ed : (l.take (at_ + n)).drop at_ = (l.drop at_).take n := by rw [List.drop_take]; congr 1; omega
    conv => whnf
    rw [e]
    refine ⟨rfl, ⟨by omega, by omega, by omega⟩, ?_⟩
    rw [show (l.take (((at_ + n : Nat) : Int)).toNat).drop ((at_ : Int)).toNat = (l.drop at_).take n from ed]
    conv => whnf
    refine CallVC.pure hc rfl ?_
    rintro _ rfl
    conv => whnf
    exact DLe.refl _
end Go.Proofs.YtgodclgcfpmloaaGreatDoor.V
namespace Go.Proofs.YtgodclgcfpmloaaGreatDoor.V
open Go.RowKit
attribute [local irreducible] Fn FnN FnR OpVC DLe

theorem b4_wrap (x : Nat) : IntKind.u8.wrap ((x : Int).fdiv (2 ^ (min (24 : Int).toNat IntKind.u32.bits))) = ((x / 16777216 % 256 : Nat) : Int) ∧ IntKind.u8.wrap ((x : Int).fdiv (2 ^ (min (16 : Int).toNat IntKind.u32.bits))) = ((x / 65536 % 256 : Nat) : Int) ∧
    IntKind.u8.wrap ((x : Int).fdiv (2 ^ (min (8 : Int).toNat IntKind.u32.bits))) = ((x / 256 % 256 : Nat) : Int) ∧ IntKind.u8.wrap (x : Int) = ((x % 256 : Nat) : Int) := by
  refine ⟨?_, ?_, ?_, ?_⟩
  · rw [u8_wrap', show (x : Int).fdiv (2 ^ (min (24 : Int).toNat IntKind.u32.bits)) = ((x / 16777216 : Nat) : Int) from shr_at x 24]; omega
  · rw [u8_wrap', show (x : Int).fdiv (2 ^ (min (16 : Int).toNat IntKind.u32.bits)) = ((x / 65536 : Nat) : Int) from shr_at x 16]; omega
  · rw [u8_wrap', show (x : Int).fdiv (2 ^ (min (8 : Int).toNat IntKind.u32.bits)) = ((x / 256 : Nat) : Int) from shr_at x 8]; omega
  · rw [u8_wrap']; omega
theorem b2_wrap (x : Nat) : IntKind.u8.wrap ((x : Int).fdiv (2 ^ (min (8 : Int).toNat IntKind.u16.bits))) = ((x / 256 % 256 : Nat) : Int) ∧ IntKind.u8.wrap (x : Int) = ((x % 256 : Nat) : Int) := by
  refine ⟨?_, ?_⟩
  · rw [u8_wrap', show (x : Int).fdiv (2 ^ (min (8 : Int).toNat IntKind.u16.bits)) = ((x / 256 : Nat) : Int) from shr_at x 8]; omega
  · rw [u8_wrap']; omega
theorem octCloneNil {s : St} {K : D → St → Prop} (h : K (.v (.slice none 0 0)) s) : CallVC Tryz.prog false 106 [.v (.slice none 0 0)] s K := by
  refine goIn [] Tryz.func106 rfl (by kernel_rfl) (Nat.le_of_ble_eq_true rfl) ?_
  conv => whnf
  exact h
set_option maxHeartbeats 1000000 in
theorem octPut32_row (a b : Nat) : FnR Tryz.prog 135 [.v (.slice none 0 0), .lit 1 [[u32D a], [u32D b]]] Nat 5 1 octE (b4 a ++ b4 b) := by
  refine fnROf [] Tryz.func135 rfl (by kernel_rfl) (Nat.le_of_ble_eq_true rfl) ?_
  obtain ⟨a1, a2, a3, a4⟩ := b4_wrap a
  obtain ⟨b1, b2, b3, b4'⟩ := b4_wrap b
  conv => whnf
  refine octCloneNil ?_
  conv => whnf
  refine ⟨Nat, fun k => ⟨[(12, intD k), (11, intD 2), (10, .lit 1 [[u32D a], [u32D b]]), (5, .grow 0)], [(0, .grow Nat 5 1 octE (match k with | 0 => [] | 1 => b4 a | _ + 2 => b4 a ++ b4 b))], 1, ([], 0)⟩, fun k => k ≤ 2, fun k => 2 - k, ⟨0, [], [0], ?_, Nat.zero_le _⟩, ?_⟩
  · repeat' (first | exact trivial | exact .inl (DLe.refl _) | exact .inl (DLe.nil _ _) | (refine .inr ⟨rfl, _, ?_, rfl⟩; rfl) | exact rfl | exact .inl rfl | exact .inr ⟨rfl, rfl, rfl, rfl⟩ | exact Nat.zero_le _ | constructor)
  · intro k hk
    rcases (by have : k ≤ 2 := hk; omega : k = 0 ∨ k = 1 ∨ k = 2) with rfl | rfl | rfl
    · conv => whnf
      refine ⟨rfl, ?_⟩
      conv => whnf
      refine ⟨by decide, ?_⟩
      conv => whnf
      refine ⟨by decide, ?_⟩
      conv => whnf
      refine ⟨by decide, ?_⟩
      conv => whnf
      rw [a1, a2, a3, a4]
      (refine ⟨Nat.le_of_ble_eq_true rfl, ?_⟩; conv => whnf)
      refine ⟨Nat, octE, b4 a, rfl, fun _ => rfl, by simp [b4], by simp [b4], rfl, ?_⟩
      conv => whnf
      refine ⟨1, [(0, 1)], [], ?_, by decide, by decide⟩
      repeat' (first | exact trivial | exact .inl (DLe.refl _) | exact .inl (DLe.nil _ _) | (refine .inr ⟨rfl, _, ?_, rfl⟩; rfl) | exact rfl | exact .inl rfl | exact .inr ⟨rfl, rfl, rfl, rfl⟩ | exact Nat.zero_le _ | constructor)
    · conv => whnf
      refine ⟨rfl, ?_⟩
      conv => whnf
      refine ⟨by decide, ?_⟩
      conv => whnf
      refine ⟨by decide, ?_⟩
      conv => whnf
      refine ⟨by decide, ?_⟩
      conv => whnf
      rw [b1, b2, b3, b4']
      (refine ⟨Nat.le_of_ble_eq_true rfl, ?_⟩; conv => whnf)
      refine ⟨Nat, octE, b4 a ++ b4 b, rfl, fun _ => rfl, by simp [b4], by simp [b4], rfl, ?_⟩
      conv => whnf
      refine ⟨2, [(0, 1)], [], ?_, by decide, by decide⟩
      repeat' (first | exact trivial | exact .inl (DLe.refl _) | exact .inl (DLe.nil _ _) | (refine .inr ⟨rfl, _, ?_, rfl⟩; rfl) | exact rfl | exact .inl rfl | exact .inr ⟨rfl, rfl, rfl, rfl⟩ | exact Nat.zero_le _ | constructor)
    · conv => whnf
      exact ⟨fun _ => rfl, rfl⟩
theorem octPut16_row (l : List Nat) (a : Nat) (hlen : l.length ≤ 1000000) : FnR Tryz.prog 134 [octR l, .lit 1 [[u16D a]]] Nat 5 1 octE (l ++ b2 a) := by
  refine fnROf [] Tryz.func134 rfl (by kernel_rfl) (Nat.le_of_ble_eq_true rfl) ?_
  obtain ⟨a1, a2⟩ := b2_wrap a
  conv => whnf
  refine CallVC.row (octClone_row l hlen) rfl ?_
  conv => whnf
  refine ⟨Nat, fun k => ⟨[(12, intD k), (11, intD 1), (10, .lit 1 [[u16D a]]), (5, .grow 0)], [(0, .grow Nat 5 1 octE (match k with | 0 => l | _ + 1 => l ++ b2 a))], 1, ([], 0)⟩, fun k => k ≤ 1, fun k => 1 - k, ⟨0, [], [], ?_, Nat.zero_le _⟩, ?_⟩
  · repeat' (first | exact trivial | exact .inl (DLe.refl _) | exact .inl (DLe.nil _ _) | (refine .inr ⟨rfl, _, ?_, rfl⟩; rfl) | exact rfl | exact .inl rfl | exact .inr ⟨rfl, rfl, rfl, rfl⟩ | exact Nat.zero_le _ | constructor)
  · intro k hk
    rcases (by have : k ≤ 1 := hk; omega : k = 0 ∨ k = 1) with rfl | rfl
    · conv => whnf
      refine ⟨rfl, ?_⟩
      conv => whnf
      refine ⟨by decide, ?_⟩
      conv => whnf
      rw [a1, a2]
      (refine ⟨Nat.le_of_ble_eq_true rfl, ?_⟩; conv => whnf)
      refine ⟨Nat, octE, l ++ b2 a, by rw [List.map_append]; rfl, fun _ => rfl, by rw [List.length_append]; show l.length + 2 ≤ _; omega, by rw [List.length_append]; show (l.length + 2) * 1 ≤ _; omega, rfl, ?_⟩
      conv => whnf
      refine ⟨1, [(0, 1)], [], ?_, by decide, by decide⟩
      repeat' (first | exact trivial | exact .inl (DLe.refl _) | exact .inl (DLe.nil _ _) | (refine .inr ⟨rfl, _, ?_, rfl⟩; rfl) | exact rfl | exact .inl rfl | exact .inr ⟨rfl, rfl, rfl, rfl⟩ | exact Nat.zero_le _ | constructor)
    · conv => whnf
      exact ⟨fun _ => rfl, rfl⟩
theorem udpHead_fn (src dst proto n : Nat) : Fn Tryz.prog 133 [u32D src, u32D dst, u8D proto, intD n] fun d => d = octR (headL src dst proto n) := by
  refine FnX (fnOf [] Tryz.func133 rfl (by kernel_rfl) (Nat.le_of_ble_eq_true rfl) ?_)
  have c0 : IntKind.u16.wrap (n : Int) = ((n % 65536 : Nat) : Int) := by rw [u16_wrap]; omega
  have c3 : b2 (n % 65536) = b2 n := by
    simp only [b2, List.cons.injEq, and_true]
    omega
  have h2 := octPut16_row (b4 src ++ b4 dst ++ [0, proto]) (n % 65536) (by simp [b4])
  rw [c3] at h2
  conv => whnf
  refine ⟨by decide, ?_⟩
  conv => whnf
  refine CallVC.row (octPut32_row src dst) rfl ?_
  conv => whnf
  refine ⟨by decide, ?_⟩
  conv => whnf
  refine ⟨Nat, octE, b4 src ++ b4 dst ++ [0, proto], rfl, fun _ => rfl, by simp [b4], by simp [b4], rfl, ?_⟩
  conv => whnf
  rw [c0]
  refine ⟨by decide, ?_⟩
  conv => whnf
  refine CallVC.row h2 rfl ?_
  conv => whnf
  exact DLe.refl _
theorem join1_fn (a : List Nat) (ha : a.length ≤ 1000000) : Fn Tryz.prog 127 [.lit 1 [[octR a]]] fun d => d = octR a := by
  refine FnX (fnOf [] Tryz.func127 rfl (by kernel_rfl) (Nat.le_of_ble_eq_true rfl) ?_)
  conv => whnf
  refine ⟨Nat, fun k => ⟨[(8, intD k), (7, intD 1), (6, .lit 1 [[octR a]]), (3, .grow 0)], [(0, .grow Nat 5 1 octE (match k with | 0 => [] | _ + 1 => a))], 1, ([], 0)⟩, fun k => k ≤ 1, fun k => 1 - k, ⟨0, [], [0], ?_, Nat.zero_le _⟩, ?_⟩
  · repeat' (first | exact trivial | exact .inl (DLe.refl _) | exact .inl (DLe.nil _ _) | (refine .inr ⟨rfl, _, ?_, rfl⟩; rfl) | exact rfl | exact .inl rfl | exact .inr ⟨rfl, rfl, rfl, rfl⟩ | exact Nat.zero_le _ | constructor)
  intro k hk
  rcases (by have : k ≤ 1 := hk; omega : k = 0 ∨ k = 1) with rfl | rfl
  · conv => whnf
    refine ⟨rfl, ?_⟩
    conv => whnf
    refine ⟨Nat, octE, a, rfl, fun _ => rfl, by omega, by show a.length * 1 ≤ _; omega, rfl, ?_⟩
    conv => whnf
    refine ⟨1, [(0, 1)], [], ?_, by decide, by decide⟩
    repeat' (first | exact trivial | exact .inl (DLe.refl _) | exact .inl (DLe.nil _ _) | (refine .inr ⟨rfl, _, ?_, rfl⟩; rfl) | exact rfl | exact .inl rfl | exact .inr ⟨rfl, rfl, rfl, rfl⟩ | exact Nat.zero_le _ | constructor)
  · conv => whnf
    exact DLe.refl _
theorem join2_fn (a b : List Nat) (ha : a.length ≤ 1000000) (hb : b.length ≤ 1000000) : Fn Tryz.prog 127 [.lit 1 [[octR a], [octR b]]] fun d => d = octR (a ++ b) := by
  refine FnX (fnOf [] Tryz.func127 rfl (by kernel_rfl) (Nat.le_of_ble_eq_true rfl) ?_)
  conv => whnf
  refine ⟨Nat, fun k => ⟨[(8, intD k), (7, intD 2), (6, .lit 1 [[octR a], [octR b]]), (3, .grow 0)], [(0, .grow Nat 5 1 octE (match k with | 0 => [] | 1 => a | _ + 2 => a ++ b))], 1, ([], 0)⟩, fun k => k ≤ 2, fun k => 2 - k, ⟨0, [], [0], ?_, Nat.zero_le _⟩, ?_⟩
  · repeat' (first | exact trivial | exact .inl (DLe.refl _) | exact .inl (DLe.nil _ _) | (refine .inr ⟨rfl, _, ?_, rfl⟩; rfl) | exact rfl | exact .inl rfl | exact .inr ⟨rfl, rfl, rfl, rfl⟩ | exact Nat.zero_le _ | constructor)
  intro k hk
  rcases (by have : k ≤ 2 := hk; omega : k = 0 ∨ k = 1 ∨ k = 2) with rfl | rfl | rfl
  · conv => whnf
    refine ⟨rfl, ?_⟩
    conv => whnf
    refine ⟨Nat, octE, a, rfl, fun _ => rfl, by omega, by show a.length * 1 ≤ _; omega, rfl, ?_⟩
    conv => whnf
    refine ⟨1, [(0, 1)], [], ?_, by decide, by decide⟩
    repeat' (first | exact trivial | exact .inl (DLe.refl _) | exact .inl (DLe.nil _ _) | (refine .inr ⟨rfl, _, ?_, rfl⟩; rfl) | exact rfl | exact .inl rfl | exact .inr ⟨rfl, rfl, rfl, rfl⟩ | exact Nat.zero_le _ | constructor)
  · conv => whnf
    refine ⟨rfl, ?_⟩
    conv => whnf
    refine ⟨Nat, octE, a ++ b, by rw [List.map_append], fun _ => rfl, by rw [List.length_append]; omega, by rw [List.length_append]; show (a.length + b.length) * 1 ≤ _; omega, rfl, ?_⟩
    conv => whnf
    refine ⟨2, [(0, 1)], [], ?_, by decide, by decide⟩
    repeat' (first | exact trivial | exact .inl (DLe.refl _) | exact .inl (DLe.nil _ _) | (refine .inr ⟨rfl, _, ?_, rfl⟩; rfl) | exact rfl | exact .inl rfl | exact .inr ⟨rfl, rfl, rfl, rfl⟩ | exact Nat.zero_le _ | constructor)
  · conv => whnf
    exact DLe.refl _

/-! ### Sums -/
abbrev u64O (n : Int) : D := .v (.int .u64 n)
theorem u64_small {n : Int} (h : 0 ≤ n ∧ n < 18446744073709551616) : IntKind.u64.wrap n = n := by rw [u64_wrap]; omega
theorem u64_low (x : Nat) (hx : x < 1000000000000) : IntKind.u64.wrap (((BitVec.ofInt IntKind.u64.bits (x : Int) &&& BitVec.ofInt IntKind.u64.bits 65535).toNat : Nat) : Int) = ((x % 65536 : Nat) : Int) := by
  have h : (BitVec.ofInt 64 (x : Int) &&& BitVec.ofInt 64 65535).toNat = x &&& 65535 := by
    rw [BitVec.toNat_and, BitVec.toNat_ofInt, BitVec.toNat_ofInt]
    congr 1; omega
  rw [show (BitVec.ofInt IntKind.u64.bits (x : Int) &&& BitVec.ofInt IntKind.u64.bits 65535).toNat = x &&& 65535 from h]
  rw [show x &&& 65535 = x % 65536 from Nat.and_two_pow_sub_one_eq_mod x 16]
  exact u64_small (by omega)
theorem fold_fn (n : Nat) (h : n < 1000000000000) : Fn Tryz.prog 128 [u64O n] fun d => d = u16D (foldN n) := by
  refine fnOf [] Tryz.func128 rfl (by kernel_rfl) (Nat.le_of_ble_eq_true rfl) ?_
  conv => whnf
  refine ⟨Nat, fun k => ⟨[(0, u64O k)], [], 0, ([], 0)⟩, fun k => k < 1000000000000 ∧ foldN k = foldN n, fun k => k, ⟨n, [], [], ?_, h, rfl⟩, ?_⟩
  · repeat' (first | exact trivial | exact .inl (DLe.refl _) | exact .inl (DLe.nil _ _) | (refine .inr ⟨rfl, _, ?_, rfl⟩; rfl) | exact rfl | exact .inl rfl | exact .inr ⟨rfl, rfl, rfl, rfl⟩ | exact Nat.zero_le _ | constructor)
  rintro k ⟨hk, hf⟩
  conv => whnf
  refine Fork.intro (fun h1 => ?_) (fun h1 => ?_)
  · have h1 : 65535 < k := by have := of_decide_eq_true h1; omega
    conv => whnf
    refine ⟨by decide, ?_⟩
    conv => whnf
    rw [u64_low k hk, show (k : Int).fdiv (2 ^ min (Int.toNat 16) IntKind.u64.bits) = ((k / 65536 : Nat) : Int) from shr_at k 16, show ((k / 65536 : Nat) : Int) + ((k % 65536 : Nat) : Int) = ((k / 65536 + k % 65536 : Nat) : Int) by omega, u64_small (n := ((k / 65536 + k % 65536 : Nat) : Int)) (by omega)]
    refine ⟨k / 65536 + k % 65536, [], [], ?_, ⟨by omega, (foldN_step h1).trans hf⟩, by show k / 65536 + k % 65536 < k; omega⟩
    repeat' (first | exact trivial | exact .inl (DLe.refl _) | exact .inl (DLe.nil _ _) | (refine .inr ⟨rfl, _, ?_, rfl⟩; rfl) | exact rfl | exact .inl rfl | exact .inr ⟨rfl, rfl, rfl, rfl⟩ | exact Nat.zero_le _ | constructor)
  · have h1 : ¬ 65535 < k := by have := of_decide_eq_false h1; omega
    conv => whnf
    rw [← hf, foldN_small (by omega), u16_wrap]
    show D.v (Value.int IntKind.u16 ((k : Int) % 65536)) = u16D k
    rw [show (k : Int) % 65536 = k by omega]
theorem onesA_fn (X : List (List D)) (l : List Nat) (hj : Fn Tryz.prog 127 [.lit 1 X] fun d => d = octR l) (hc : [D.lit 1 X].all (cutOk 6 0) = true) (hl : Byt l) (hlen : l.length ≤ 1000000) : Fn Tryz.prog 119 [.lit 1 X] fun d => d = u16D (onesL l) := by
  refine fnOf [] Tryz.func119 rfl (by kernel_rfl) (Nat.le_of_ble_eq_true rfl) ?_
  have hfo := fold_fn (smB true l) (by have := smB_le hl true; omega)
  have hsl := smB_le hl
  have hle : ∀ k, smB true (l.take k) ≤ 65280000000 := fun k => by
    have := smB_le (l := l.take k) (fun c hc => hl c (List.mem_of_mem_take hc)) true
    rw [List.length_take] at this
    omega
  conv => whnf
  refine CallVC.pure hj hc ?_
  rintro _ rfl
  conv => whnf
  refine ⟨Nat, fun k => ⟨[(9, intD k), (8, intD l.length), (7, octR l), (3, u64O (smB true (l.take k)))], [], 0, ([], 0)⟩, fun k => k ≤ l.length, fun k => l.length - k, ⟨0, [], [], ?_, Nat.zero_le _⟩, ?_⟩
  · repeat' (first | exact trivial | exact .inl (DLe.refl _) | exact .inl (DLe.nil _ _) | (refine .inr ⟨rfl, _, ?_, rfl⟩; rfl) | exact rfl | exact .inl rfl | exact .inr ⟨rfl, rfl, rfl, rfl⟩ | exact Nat.zero_le _ | constructor)
  intro k hk
  replace hk : k ≤ l.length := hk
  have e0 := wrapN (n := k) (by omega)
  have hlk := hle k
  conv => whnf
  refine Fork.intro (fun h1 => ?_) (fun h1 => ?_)
  · have h1 := of_decide_eq_true h1
    conv => whnf
    refine ⟨rfl, ⟨by omega, h1⟩, fun x hxx => ?_⟩
    have hxx : l[k]? = some x := hxx
    have hx256 := hl.get hxx
    have hn := smB_take hxx
    have e5 : IntKind.u64.wrap (x : Int) = (x : Int) := u64_small (by omega)
    have em : (k : Int).tmod 2 = ((k % 2 : Nat) : Int) := by rw [Int.tmod_eq_emod_of_nonneg (by omega)]; omega
    have es : IntKind.u64.wrap ((x : Int) * 2 ^ (min (8 : Int).toNat IntKind.u64.bits)) = ((x * 256 : Nat) : Int) := by
      show IntKind.u64.wrap ((x : Int) * 256) = _
      rw [u64_small (by omega)]; omega
    conv => whnf
    refine ⟨by decide, ?_⟩
    conv => whnf
    rw [em]
    refine Fork.intro (fun h2 => ?_) (fun h2 => ?_)
    · have h2 : k % 2 = 0 := by have := of_decide_eq_true h2; omega
      rw [if_pos h2] at hn
      conv => whnf
      refine ⟨by decide, ?_⟩
      conv => whnf
      rw [e5, es, show ((smB true (l.take k) : Nat) : Int) + ((x * 256 : Nat) : Int) = ((smB true (l.take (k + 1)) : Nat) : Int) by rw [hn]; omega, u64_small (n := ((smB true (l.take (k + 1)) : Nat) : Int)) (by have := hle (k + 1); omega), e0]
      refine ⟨k + 1, [], [], ?_, by show k + 1 ≤ l.length; omega, by show l.length - (k + 1) < l.length - k; omega⟩
      repeat' (first | exact trivial | exact .inl (DLe.refl _) | exact .inl (DLe.nil _ _) | (refine .inr ⟨rfl, _, ?_, rfl⟩; rfl) | exact rfl | exact .inl rfl | exact .inr ⟨rfl, rfl, rfl, rfl⟩ | exact Nat.zero_le _ | constructor)
    · have h2 : ¬ k % 2 = 0 := by have := of_decide_eq_false h2; omega
      rw [if_neg h2] at hn
      conv => whnf
      rw [e5, show ((smB true (l.take k) : Nat) : Int) + (x : Int) = ((smB true (l.take (k + 1)) : Nat) : Int) by rw [hn]; omega, u64_small (n := ((smB true (l.take (k + 1)) : Nat) : Int)) (by have := hle (k + 1); omega), e0]
      refine ⟨k + 1, [], [], ?_, by show k + 1 ≤ l.length; omega, by show l.length - (k + 1) < l.length - k; omega⟩
      repeat' (first | exact trivial | exact .inl (DLe.refl _) | exact .inl (DLe.nil _ _) | (refine .inr ⟨rfl, _, ?_, rfl⟩; rfl) | exact rfl | exact .inl rfl | exact .inr ⟨rfl, rfl, rfl, rfl⟩ | exact Nat.zero_le _ | constructor)
  · have h1 := of_decide_eq_false h1
    obtain rfl : k = l.length := by omega
    rw [List.take_length]
    conv => whnf
    refine CallVC.pure hfo rfl ?_
    rintro _ rfl
    conv => whnf
    rfl
theorem rightA_fn (X : List (List D)) (l : List Nat) (hj : Fn Tryz.prog 127 [.lit 1 X] fun d => d = octR l) (hc : [D.lit 1 X].all (cutOk 6 0) = true) (hl : Byt l) (hlen : l.length ≤ 1000000) : Fn Tryz.prog 110 [.lit 1 X] fun d => d = boolD (decide (onesL l = 65535)) := by
  refine fnOf [] Tryz.func110 rfl (by kernel_rfl) (Nat.le_of_ble_eq_true rfl) ?_
  have ho := onesA_fn X l hj hc hl hlen
  conv => whnf
  refine CallVC.pure ho hc ?_
  rintro _ rfl
  conv => whnf
  exact congrArg boolD (decide_eq_decide.2 (by omega))
end Go.Proofs.YtgodclgcfpmloaaGreatDoor.V
namespace Go.Proofs.YtgodclgcfpmloaaGreatDoor.V
open Go.RowKit
def LeL : List D → List D → Prop
  | [], [] => True
  | a :: l, b :: m => DLe a b ∧ LeL l m
  | _, _ => False
theorem LeL.len : ∀ {l m : List D}, LeL l m → l.length = m.length
  | [], [], _ => rfl
  | _ :: _, _ :: _, h => by simp [LeL.len h.2]
  | [], _ :: _, h => h.elim
  | _ :: _, [], h => h.elim
theorem LeL.at : ∀ {l m : List D}, LeL l m → ∀ (j : Nat) d, m[j]? = some d → ∃ c, l[j]? = some c ∧ DLe c d
  | [], [], _, j, d, hd => by simp at hd
  | a :: l, b :: m, h, j, d, hd => by
    cases j with
    | zero =>
      obtain rfl : b = d := by simpa using hd
      exact ⟨a, rfl, h.1⟩
    | succ j => simpa using LeL.at h.2 j d (by simpa using hd)
  | [], _ :: _, h, _, _, _ => h.elim
  | _ :: _, [], h, _, _, _ => h.elim
theorem dleAgg {l m : List D} (h : LeL l m) : DLe (.agg l) (.agg m) := fun C v hv => by
  cases hv with
  | agg hs hh =>
    refine .agg (hs.trans h.len) fun j d u hd hu => ?_
    obtain ⟨c, h1, h2⟩ := h.at j d hd
    exact h2 _ _ (hh j c u h1 hu)
theorem dleTup {l m : List D} (h : LeL l m) : DLe (.tup l) (.tup m) := fun C v hv => by
  cases hv with
  | tup hs hh =>
    refine .tup (hs.trans h.len) fun j d u hd hu => ?_
    obtain ⟨c, h1, h2⟩ := h.at j d hd
    exact h2 _ _ (hh j c u h1 hu)
attribute [local irreducible] Fn FnN FnR OpVC DLe

def dgmD (x : Dgm) : List D := [u16D x.src, u16D x.dst, boolD x.bare, octR x.data]
abbrev dgmR (r : Dgm × Int) : D := .tup [.agg (dgmD r.1), intD r.2]
theorem dgm0_le {e : Int} : DLe (.tup [.agg [u16D 0, u16D 0, .v (.bool false), .v (.slice none 0 0)], intD e]) (dgmR (dgm0, e)) :=
  dleTup ⟨dleAgg ⟨DLe.refl _, DLe.refl _, DLe.refl _, DLe.nil _ _, trivial⟩, DLe.refl _, trivial⟩
theorem u16_i64 (n : Nat) (h : n < 65536) : IntKind.i64.wrap (n : Int) = (n : Int) := IntWalk.i64_in _ (by omega)
set_option maxHeartbeats 1000000 in
theorem udpParse_fn (src dst : Nat) (b : List Nat) (hb : Byt b) (hl : b.length ≤ 100000) : Fn Tryz.prog 131 [u32D src, u32D dst, octR b] fun d => d = dgmR (parseU src dst b) := by
  refine FnX (fnOf [] Tryz.func131 rfl (by kernel_rfl) (Nat.le_of_ble_eq_true rfl) ?_)
  have hn := octGet16_fn b 4 hb (by omega) (by decide)
  have hs := octGet16_fn b 6 hb (by omega) (by decide)
  have hnl := get16_lt b 4
  have hsl := get16_lt b 6
  unfold parseU udpBad
  generalize get16 b 4 = n at *
  generalize get16 b 6 = s at *
  have en := u16_i64 n hnl
  have hcut := octCut_fn b 0 n (by omega) (by decide) (by omega)
  have hhead := udpHead_fn src dst 17 n
  have hall : Byt (b.take n) := fun c hc => hb c (List.mem_of_mem_take hc)
  have hr := rightA_fn [[octR (headL src dst 17 n)], [octR (b.take n)]] (headL src dst 17 n ++ b.take n) (join2_fn _ _ (by rw [headL_len]; decide) (by rw [List.length_take]; omega)) rfl (bytA (headL_byt (by decide)) hall) (by rw [List.length_append, headL_len, List.length_take]; omega)
  have h0 := octGet16_fn (b.take n) 0 hall (by rw [List.length_take]; omega) (by decide)
  have h2 := octGet16_fn (b.take n) 2 hall (by rw [List.length_take]; omega) (by decide)
  have hd := octCut_fn (b.take n) 8 (n - 8) (by rw [List.length_take]; omega) (by decide) (by omega)
  generalize get16 (b.take n) 0 = x0 at *
  generalize get16 (b.take n) 2 = x2 at *
  generalize cutP (b.take n) 8 (n - 8) = xd at *
  generalize decide (onesL (headL src dst 17 n ++ b.take n) = 65535) = okk at *
  generalize headL src dst 17 n = H at *
  conv => whnf
  refine Fork.intro (fun q1 => ?_) (fun q1 => ?_)
  · rw [decide_eq_true (show b.length < 8 by have := of_decide_eq_true q1; omega)]
    conv => whnf
    exact dgm0_le
  have q1 : ¬ b.length < 8 := by have := of_decide_eq_false q1; omega
  rw [decide_eq_false q1]
  dsimp only
  conv => whnf
  refine CallVC.pure hn rfl ?_
  rintro _ rfl
  conv => whnf
  refine CallVC.pure hs rfl ?_
  rintro _ rfl
  conv => whnf
  refine Fork.intro (fun q2 => ?_) (fun q2 => ?_)
  · rw [decide_eq_true (show n < 8 by have := of_decide_eq_true q2; omega)]
    conv => whnf
    exact dgm0_le
  have q2 : ¬ n < 8 := by have := of_decide_eq_false q2; omega
  rw [decide_eq_false q2]
  dsimp only
  conv => whnf
  rw [en]
  refine Fork.intro (fun q3 => ?_) (fun q3 => ?_)
  · rw [decide_eq_true (show b.length < n by have := of_decide_eq_true q3; omega)]
    conv => whnf
    exact dgm0_le
  have q3 : ¬ b.length < n := by have := of_decide_eq_false q3; omega
  rw [decide_eq_false q3]
  dsimp only
  have hcl : cutP b 0 n = b.take n := by
    unfold cutP
    rw [decide_eq_true (by omega)]; rfl
  rw [hcl] at hcut
  have hlen : ((b.take n).length : Int) = n := by rw [List.length_take]; omega
  have e8 : IntKind.i64.wrap ((n : Int) - 8) = ((n - 8 : Nat) : Int) := by rw [IntWalk.i64_in _ (by omega)]; omega
  generalize b.take n = all at *
  conv => whnf
  rw [en]
  refine CallVC.pure hcut rfl ?_
  rintro _ rfl
  conv => whnf
  have hz : decide ((s : Int) = 0) = decide (s = 0) := decide_eq_decide.2 (by omega)
  rw [hz]
  generalize decide (s = 0) = z at *
  have fin : ∀ zz : Bool, DLe (.tup [.agg [u16D x0, u16D x2, boolD zz, octR xd], intD 0]) (dgmR (⟨x0, x2, zz, xd⟩, 0)) := fun zz => DLe.refl _
  cases z with
  | true =>
    conv => whnf
    rw [hz]
    conv => whnf
    refine CallVC.pure h0 rfl ?_
    rintro _ rfl
    conv => whnf
    refine CallVC.pure h2 rfl ?_
    rintro _ rfl
    conv => whnf
    rw [hlen, e8]
    refine CallVC.pure hd rfl ?_
    rintro _ rfl
    conv => whnf
    exact fin true
  | false =>
    conv => whnf
    rw [en]
    refine CallVC.pure hhead rfl ?_
    rintro _ rfl
    conv => whnf
    refine ⟨by decide, ?_⟩
    conv => whnf
    refine CallVC.pure hr rfl ?_
    rintro _ rfl
    cases okk with
    | false =>
      conv => whnf
      exact dgm0_le
    | true =>
      conv => whnf
      rw [hz]
      conv => whnf
      refine CallVC.pure h0 rfl ?_
      rintro _ rfl
      conv => whnf
      refine CallVC.pure h2 rfl ?_
      rintro _ rfl
      conv => whnf
      rw [hlen, e8]
      refine CallVC.pure hd rfl ?_
      rintro _ rfl
      conv => whnf
      exact fin false
end Go.Proofs.YtgodclgcfpmloaaGreatDoor.V
namespace Go.Proofs.YtgodclgcfpmloaaGreatDoor.V
open Go.RowKit
attribute [local irreducible] Fn FnN FnR OpVC DLe

def segD (x : Seg) : List D := [u16D x.src, u16D x.dst, u32D x.seq, u32D x.ack, u8D x.res, u8D x.flags, u16D x.window, u16D x.urgent, octR x.opts, octR x.data]
abbrev segR (r : Seg × Int) : D := .tup [.agg (segD r.1), intD r.2]
theorem seg0_le {e : Int} : DLe (.tup [.agg [u16D 0, u16D 0, u32D 0, u32D 0, u8D 0, u8D 0, u16D 0, u16D 0, .v (.slice none 0 0), .v (.slice none 0 0)], intD e]) (segR (seg0, e)) :=
  dleTup ⟨dleAgg ⟨DLe.refl _, DLe.refl _, DLe.refl _, DLe.refl _, DLe.refl _, DLe.refl _, DLe.refl _, DLe.refl _, DLe.nil _ _, DLe.nil _ _, trivial⟩, DLe.refl _, trivial⟩
def icmD (x : Icm) : List D := [u8D x.type, u8D x.code, u32D x.rest, octR x.data]
abbrev icmR (r : Icm × Int) : D := .tup [.agg (icmD r.1), intD r.2]
theorem icm0_le {e : Int} : DLe (.tup [.agg [u8D 0, u8D 0, u32D 0, .v (.slice none 0 0)], intD e]) (icmR (icm0, e)) :=
  dleTup ⟨dleAgg ⟨DLe.refl _, DLe.refl _, DLe.refl _, DLe.nil _ _, trivial⟩, DLe.refl _, trivial⟩
theorem getD_of {l : List Nat} {i x : Nat} (h : l[i]? = some x) : l.getD i 0 = x := by rw [List.getD_eq_getElem?_getD, h]; rfl
theorem get_at {l : List Nat} {i : Nat} (h : i < l.length) : ∃ x, l[i]? = some x := ⟨_, List.getElem?_eq_getElem h⟩
theorem u8_low15 (x : Nat) (hx : x < 256) : IntKind.u8.wrap (((BitVec.ofInt IntKind.u8.bits (x : Int) &&& BitVec.ofInt IntKind.u8.bits 15).toNat : Nat) : Int) = ((x % 16 : Nat) : Int) := by
  have h : (BitVec.ofInt 8 (x : Int) &&& BitVec.ofInt 8 15).toNat = x &&& 15 := by
    rw [BitVec.toNat_and, BitVec.toNat_ofInt, BitVec.toNat_ofInt]
    congr 1; omega
  rw [show (BitVec.ofInt IntKind.u8.bits (x : Int) &&& BitVec.ofInt IntKind.u8.bits 15).toNat = x &&& 15 from h]
  rw [show x &&& 15 = x % 16 from Nat.and_two_pow_sub_one_eq_mod x 4]
  exact u8_small (by omega)

set_option maxHeartbeats 1000000 in
theorem icmpParse_fn (b : List Nat) (hb : Byt b) (hl : b.length ≤ 100000) : Fn Tryz.prog 130 [octR b] fun d => d = icmR (parseI b) := by
  refine FnX (fnOf [] Tryz.func130 rfl (by kernel_rfl) (Nat.le_of_ble_eq_true rfl) ?_)
  have hr := rightA_fn [[octR b]] b (join1_fn b (by omega)) rfl hb (by omega)
  have hg := octGet32_fn b 4 hb (by omega) (by decide)
  have hc := octCut_fn b 8 (b.length - 8) (by omega) (by decide) (by omega)
  unfold parseI
  conv => whnf
  refine Fork.intro (fun q1 => ?_) (fun q1 => ?_)
  · rw [decide_eq_true (show b.length < 8 by have := of_decide_eq_true q1; omega)]
    conv => whnf
    exact icm0_le
  have q1 : ¬ b.length < 8 := by have := of_decide_eq_false q1; omega
  rw [decide_eq_false q1]
  dsimp only
  obtain ⟨x0, h0⟩ := get_at (l := b) (i := 0) (by omega)
  obtain ⟨x1, h1⟩ := get_at (l := b) (i := 1) (by omega)
  rw [getD_of h0, getD_of h1]
  have e8 : IntKind.i64.wrap ((b.length : Int) - 8) = ((b.length - 8 : Nat) : Int) := by rw [IntWalk.i64_in _ (by omega)]; omega
  generalize cutP b 8 (b.length - 8) = xd at *
  generalize get32 b 4 = x4 at *
  generalize decide (onesL b = 65535) = okk at *
  conv => whnf
  refine ⟨by decide, ?_⟩
  conv => whnf
  refine CallVC.pure hr rfl ?_
  rintro _ rfl
  cases okk with
  | false =>
    conv => whnf
    exact icm0_le
  | true =>
    conv => whnf
    refine ⟨rfl, ⟨by decide, by omega⟩, fun y0 hy0 => ?_⟩
    obtain rfl : x0 = y0 := Option.some.inj (h0.symm.trans hy0)
    conv => whnf
    refine ⟨rfl, ⟨by decide, by omega⟩, fun y1 hy1 => ?_⟩
    obtain rfl : x1 = y1 := Option.some.inj (h1.symm.trans hy1)
    conv => whnf
    refine CallVC.pure hg rfl ?_
    rintro _ rfl
    conv => whnf
    rw [e8]
    refine CallVC.pure hc rfl ?_
    rintro _ rfl
    conv => whnf
    exact DLe.refl _
set_option maxHeartbeats 1000000 in
theorem tcpParse_fn (src dst : Nat) (b : List Nat) (hb : Byt b) (hl : b.length ≤ 100000) : Fn Tryz.prog 132 [u32D src, u32D dst, octR b] fun d => d = segR (parseT src dst b) := by
  refine FnX (fnOf [] Tryz.func132 rfl (by kernel_rfl) (Nat.le_of_ble_eq_true rfl) ?_)
  unfold parseT
  conv => whnf
  refine Fork.intro (fun q1 => ?_) (fun q1 => ?_)
  · rw [decide_eq_true (show b.length < 20 by have := of_decide_eq_true q1; omega)]
    conv => whnf
    exact seg0_le
  have q1 : ¬ b.length < 20 := by have := of_decide_eq_false q1; omega
  rw [decide_eq_false q1]
  dsimp only
  obtain ⟨x12, h12⟩ := get_at (l := b) (i := 12) (by omega)
  obtain ⟨x13, h13⟩ := get_at (l := b) (i := 13) (by omega)
  have b12 := hb.get h12
  unfold offT
  rw [getD_of h12, getD_of h13]
  have eo : IntKind.i64.wrap (IntKind.i64.wrap ((x12 : Int).fdiv (2 ^ (min (4 : Int).toNat IntKind.u8.bits))) * 4) = ((x12 / 16 * 4 : Nat) : Int) := by
    rw [show (x12 : Int).fdiv (2 ^ (min (4 : Int).toNat IntKind.u8.bits)) = ((x12 / 16 : Nat) : Int) from shr_at x12 4, IntWalk.i64_in ((x12 / 16 : Nat) : Int) (by omega), IntWalk.i64_in _ (by omega)]
    omega
  obtain ⟨n, hn⟩ : ∃ n, n = x12 / 16 * 4 := ⟨_, rfl⟩
  rw [← hn] at eo ⊢
  have hn60 : n ≤ 60 := by omega
  have hhead := udpHead_fn src dst 6 b.length
  have hr := rightA_fn [[octR (headL src dst 6 b.length)], [octR b]] (headL src dst 6 b.length ++ b) (join2_fn _ _ (by rw [headL_len]; decide) (by omega)) rfl (bytA (headL_byt (by decide)) hb) (by rw [List.length_append, headL_len]; omega)
  have g0 := octGet16_fn b 0 hb (by omega) (by decide)
  have g2 := octGet16_fn b 2 hb (by omega) (by decide)
  have g4 := octGet32_fn b 4 hb (by omega) (by decide)
  have g8 := octGet32_fn b 8 hb (by omega) (by decide)
  have g14 := octGet16_fn b 14 hb (by omega) (by decide)
  have g18 := octGet16_fn b 18 hb (by omega) (by decide)
  have c20 := octCut_fn b 20 (n - 20) (by omega) (by decide) (by omega)
  have cn := octCut_fn b n (b.length - n) (by omega) (by omega) (by omega)
  have e15 := u8_low15 x12 b12
  generalize cutP b 20 (n - 20) = y20 at *
  generalize cutP b n (b.length - n) = yn at *
  generalize get16 b 0 = y0 at *
  generalize get16 b 2 = y2 at *
  generalize get32 b 4 = y4 at *
  generalize get32 b 8 = y8 at *
  generalize get16 b 14 = y14 at *
  generalize get16 b 18 = y18 at *
  generalize decide (onesL (headL src dst 6 b.length ++ b) = 65535) = okk at *
  generalize headL src dst 6 b.length = H at *
  generalize x12 % 16 = z12 at *
  clear hn
  conv => whnf
  refine ⟨rfl, ⟨by decide, by omega⟩, fun w12 hw => ?_⟩
  obtain rfl : x12 = w12 := Option.some.inj (h12.symm.trans hw)
  clear hw
  conv => whnf
  refine ⟨by decide, ?_⟩
  conv => whnf
  rw [eo]
  refine Fork.intro (fun q2 => ?_) (fun q2 => ?_)
  · rw [decide_eq_true (show n < 20 by have := of_decide_eq_true q2; omega)]
    conv => whnf
    exact seg0_le
  have q2 : ¬ n < 20 := by have := of_decide_eq_false q2; omega
  rw [decide_eq_false q2]
  conv => whnf
  refine Fork.intro (fun q3 => ?_) (fun q3 => ?_)
  · rw [decide_eq_true (show 65535 < b.length by have := of_decide_eq_true q3; omega)]
    conv => whnf
    exact seg0_le
  have q3 : ¬ 65535 < b.length := by have := of_decide_eq_false q3; omega
  rw [decide_eq_false q3]
  dsimp only [Bool.or_false]
  conv => whnf
  refine Fork.intro (fun q4 => ?_) (fun q4 => ?_)
  · rw [decide_eq_true (show b.length < n by have := of_decide_eq_true q4; omega)]
    conv => whnf
    exact seg0_le
  have q4 : ¬ b.length < n := by have := of_decide_eq_false q4; omega
  rw [decide_eq_false q4]
  dsimp only
  have e20 : IntKind.i64.wrap ((n : Int) - 20) = ((n - 20 : Nat) : Int) := by rw [IntWalk.i64_in _ (by omega)]; omega
  have en : IntKind.i64.wrap ((b.length : Int) - n) = ((b.length - n : Nat) : Int) := by rw [IntWalk.i64_in _ (by omega)]; omega
  conv => whnf
  refine CallVC.pure hhead rfl ?_
  rintro _ rfl
  conv => whnf
  refine ⟨by decide, ?_⟩
  conv => whnf
  refine CallVC.pure hr rfl ?_
  rintro _ rfl
  cases okk with
  | false =>
    conv => whnf
    exact seg0_le
  | true =>
    conv => whnf
    refine ⟨rfl, ⟨by decide, by omega⟩, fun w12 hw => ?_⟩
    obtain rfl : x12 = w12 := Option.some.inj (h12.symm.trans hw)
    conv => whnf
    refine ⟨rfl, ⟨by decide, by omega⟩, fun w13 hw => ?_⟩
    obtain rfl : x13 = w13 := Option.some.inj (h13.symm.trans hw)
    conv => whnf
    rw [e15]
    refine CallVC.pure g0 rfl ?_
    rintro _ rfl
    conv => whnf
    refine CallVC.pure g2 rfl ?_
    rintro _ rfl
    conv => whnf
    refine CallVC.pure g4 rfl ?_
    rintro _ rfl
    conv => whnf
    refine CallVC.pure g8 rfl ?_
    rintro _ rfl
    conv => whnf
    refine CallVC.pure g14 rfl ?_
    rintro _ rfl
    conv => whnf
    refine CallVC.pure g18 rfl ?_
    rintro _ rfl
    conv => whnf
    rw [e20]
    refine CallVC.pure c20 rfl ?_
    rintro _ rfl
    conv => whnf
    rw [en]
    refine CallVC.pure cn rfl ?_
    rintro _ rfl
    conv => whnf
    exact DLe.refl _
end Go.Proofs.YtgodclgcfpmloaaGreatDoor.V
namespace Go.Proofs.YtgodclgcfpmloaaGreatDoor.V
open Go.RowKit
attribute [local irreducible] Fn FnN FnR OpVC DLe

structure Pkt where
  tos : Nat
  id : Nat
  df : Bool
  mf : Bool
  off : Nat
  ttl : Nat
  proto : Nat
  src : Nat
  dst : Nat
  opts : List Nat
  data : List Nat
structure Pkt.ok (p : Pkt) : Prop where
  tos : p.tos < 256
  id : p.id < 65536
  off : p.off < 65536
  ttl : p.ttl < 256
  proto : p.proto < 256
  src : p.src < 4294967296
  dst : p.dst < 4294967296
  opts : Byt p.opts
  data : Byt p.data
def pktD (p : Pkt) : List D := [u8D p.tos, u16D p.id, boolD p.df, boolD p.mf, u16D p.off, u8D p.ttl, u8D p.proto, u32D p.src, u32D p.dst, octR p.opts, octR p.data]

inductive Body where
  | none
  | icm (x : Icm)
  | dgm (x : Dgm)
  | seg (x : Seg)
def bodyD : Body → D
  | .none => .v .nilIface
  | .icm x => .iface 109 (.agg (icmD x))
  | .dgm x => .iface 113 (.agg (dgmD x))
  | .seg x => .iface 118 (.agg (segD x))
def bodyI (r : Icm × Int) : Body × Int := match decide (r.2 = 0) with
  | true => (.icm r.1, 0)
  | false => (.none, r.2)
def bodyU (r : Dgm × Int) : Body × Int := match decide (r.2 = 0) with
  | true => (.dgm r.1, 0)
  | false => (.none, r.2)
def bodyT (r : Seg × Int) : Body × Int := match decide (r.2 = 0) with
  | true => (.seg r.1, 0)
  | false => (.none, r.2)
def bodyOf (p : Pkt) : Body × Int := match decide (p.proto = 1) with
  | true => bodyI (parseI p.data)
  | false => match decide (p.proto = 17) with
    | true => bodyU (parseU p.src p.dst p.data)
    | false => match decide (p.proto = 6) with
      | true => bodyT (parseT p.src p.dst p.data)
      | false => (.none, 3)

theorem message_fn (p : Pkt) (h : p.ok) (hl : p.data.length ≤ 100000) : Fn Tryz.prog 122 [.agg (pktD p)] fun d => d = .tup [.iface 109 (.agg (icmD (parseI p.data).1)), intD (parseI p.data).2] := by
  refine fnOf [] Tryz.func122 rfl (by kernel_rfl) (Nat.le_of_ble_eq_true rfl) ?_
  have hp := icmpParse_fn p.data h.data hl
  generalize parseI p.data = r at *
  conv => whnf
  refine CallVC.pure hp rfl ?_
  rintro _ rfl
  conv => whnf
  refine op_makeIface ttH rfl rfl ?_
  conv => whnf
  rfl
theorem datagram_fn (p : Pkt) (h : p.ok) (hl : p.data.length ≤ 100000) : Fn Tryz.prog 123 [.agg (pktD p)] fun d => d = .tup [.iface 113 (.agg (dgmD (parseU p.src p.dst p.data).1)), intD (parseU p.src p.dst p.data).2] := by
  refine fnOf [] Tryz.func123 rfl (by kernel_rfl) (Nat.le_of_ble_eq_true rfl) ?_
  have hp := udpParse_fn p.src p.dst p.data h.data hl
  generalize parseU p.src p.dst p.data = r at *
  conv => whnf
  refine CallVC.pure hp rfl ?_
  rintro _ rfl
  conv => whnf
  refine op_makeIface ttH rfl rfl ?_
  conv => whnf
  rfl
theorem segment_fn (p : Pkt) (h : p.ok) (hl : p.data.length ≤ 100000) : Fn Tryz.prog 124 [.agg (pktD p)] fun d => d = .tup [.iface 118 (.agg (segD (parseT p.src p.dst p.data).1)), intD (parseT p.src p.dst p.data).2] := by
  refine fnOf [] Tryz.func124 rfl (by kernel_rfl) (Nat.le_of_ble_eq_true rfl) ?_
  have hp := tcpParse_fn p.src p.dst p.data h.data hl
  generalize parseT p.src p.dst p.data = r at *
  conv => whnf
  refine CallVC.pure hp rfl ?_
  rintro _ rfl
  conv => whnf
  refine op_makeIface ttH rfl rfl ?_
  conv => whnf
  rfl
theorem body_fn (p : Pkt) (h : p.ok) (hl : p.data.length ≤ 100000) : Fn Tryz.prog 112 [.agg (pktD p)] fun d => d = .tup [bodyD (bodyOf p).1, intD (bodyOf p).2] := by
  refine fnOf [] Tryz.func112 rfl (by kernel_rfl) (Nat.le_of_ble_eq_true rfl) ?_
  have hm := message_fn p h hl
  have hd := datagram_fn p h hl
  have hs := segment_fn p h hl
  unfold bodyOf
  generalize parseI p.data = ri at *
  generalize parseU p.src p.dst p.data = ru at *
  generalize parseT p.src p.dst p.data = rt at *
  obtain ⟨xi, ei⟩ := ri
  obtain ⟨xu, eu⟩ := ru
  obtain ⟨xt, et⟩ := rt
  conv => whnf
  refine Fork.intro (fun q1 => ?_) (fun q1 => ?_)
  · rw [decide_eq_true (show p.proto = 1 by have := of_decide_eq_true q1; omega)]
    conv => whnf
    refine CallVC.pure hm rfl ?_
    rintro _ rfl
    conv => whnf
    refine Fork.intro (fun q2 => ?_) (fun q2 => ?_)
    · have q2 : ¬ ei = 0 := by simpa using q2
      unfold bodyI
      rw [decide_eq_false q2]
      conv => whnf
      rfl
    · have q2 : ei = 0 := by simpa using q2
      subst q2
      conv => whnf
      rfl
  rw [decide_eq_false (show ¬ p.proto = 1 by have := of_decide_eq_false q1; omega)]
  conv => whnf
  refine Fork.intro (fun q3 => ?_) (fun q3 => ?_)
  · rw [decide_eq_true (show p.proto = 17 by have := of_decide_eq_true q3; omega)]
    conv => whnf
    refine CallVC.pure hd rfl ?_
    rintro _ rfl
    conv => whnf
    refine Fork.intro (fun q2 => ?_) (fun q2 => ?_)
    · have q2 : ¬ eu = 0 := by simpa using q2
      unfold bodyU
      rw [decide_eq_false q2]
      conv => whnf
      rfl
    · have q2 : eu = 0 := by simpa using q2
      subst q2
      conv => whnf
      rfl
  rw [decide_eq_false (show ¬ p.proto = 17 by have := of_decide_eq_false q3; omega)]
  conv => whnf
  refine Fork.intro (fun q4 => ?_) (fun q4 => ?_)
  · rw [decide_eq_true (show p.proto = 6 by have := of_decide_eq_true q4; omega)]
    conv => whnf
    refine CallVC.pure hs rfl ?_
    rintro _ rfl
    conv => whnf
    refine Fork.intro (fun q2 => ?_) (fun q2 => ?_)
    · have q2 : ¬ et = 0 := by simpa using q2
      unfold bodyT
      rw [decide_eq_false q2]
      conv => whnf
      rfl
    · have q2 : et = 0 := by simpa using q2
      subst q2
      conv => whnf
      rfl
  rw [decide_eq_false (show ¬ p.proto = 6 by have := of_decide_eq_false q4; omega)]
  conv => whnf
  rfl
end Go.Proofs.YtgodclgcfpmloaaGreatDoor.V
namespace Go.Proofs.YtgodclgcfpmloaaGreatDoor.V
open Go.RowKit
attribute [local irreducible] Fn FnN FnR OpVC DLe

def bigL : Nat → Nat → List Nat
  | 0, _ => []
  | k + 1, n => bigL k (n / 256) ++ [n % 256]
theorem bigL_four (n : Nat) : bigL 4 n = b4 n := by
  simp only [bigL, b4, List.nil_append, List.cons_append, List.cons.injEq, and_true]
  omega
theorem dgN (x : Nat) (hx : x < 4294967296) : IntKind.u8.wrap ((x : Int).tmod 256) = ((x % 256 : Nat) : Int) ∧ IntKind.u32.wrap ((x : Int).tdiv 256) = ((x / 256 : Nat) : Int) ∧ x / 256 < 4294967296 := by
  have h1 : (x : Int).tmod 256 = ((x % 256 : Nat) : Int) := by rw [Int.tmod_eq_emod_of_nonneg (by omega)]; omega
  have h2 : (x : Int).tdiv 256 = ((x / 256 : Nat) : Int) := by rw [Int.tdiv_eq_ediv_of_nonneg (by omega)]; omega
  rw [h1, h2, u8_small (by omega), u32_small (by omega)]
  exact ⟨rfl, rfl, by omega⟩
theorem rPut_fn (n s : Nat) (hn : n < 4294967296) (hs : 0 < s ∧ s ≤ 8) : Fn Tryz.prog 63 [u32D n, intD s] fun d => d = octR (bigL s n) := by
  refine fnOf [] Tryz.func63 rfl (by kernel_rfl) (Nat.le_of_ble_eq_true rfl) ?_
  conv => whnf
  refine op_makeSlice (n := (s : Int)) (β := Nat) (enc := octE) (zz := 0) ttH rfl rfl rfl rfl rfl (by decide) rfl ⟨by omega, by omega, by show (s : Int) * 1 ≤ _; omega⟩ rfl ?_
  conv => whnf
  refine ⟨Nat × Nat × List Nat, fun p => ⟨[(6, intD p.1), (5, .grow 0), (1, intD s), (0, u32D p.2.1)], [(0, .grow Nat 5 1 octE (List.replicate (s - p.1) 0 ++ p.2.2))], 1, ([], 0)⟩,
    fun p => p.1 ≤ s ∧ p.2.2.length = p.1 ∧ p.2.1 < 4294967296 ∧ bigL (s - p.1) p.2.1 ++ p.2.2 = bigL s n, fun p => s - p.1, ⟨(0, n, []), [], [], ?_, Nat.zero_le _, rfl, hn, List.append_nil _⟩, ?_⟩
  · refine ⟨?_, ?_, ?_⟩
    · repeat' (first | exact trivial | exact .inl (DLe.refl _) | exact .inl (DLe.nil _ _) | (refine .inr ⟨rfl, _, ?_, rfl⟩; rfl) | exact rfl | exact .inl rfl | exact .inr ⟨rfl, rfl, rfl, rfl⟩ | exact Nat.zero_le _ | constructor)
    · refine ⟨⟨rfl, .inl ?_⟩, trivial⟩
      show LO.grow Nat _ 1 octE (List.replicate (Int.toNat s) 0) = LO.grow Nat _ 1 octE (List.replicate s 0 ++ [])
      rw [List.append_nil]; rfl
    · repeat' (first | exact trivial | exact .inl (DLe.refl _) | exact .inl (DLe.nil _ _) | (refine .inr ⟨rfl, _, ?_, rfl⟩; rfl) | exact rfl | exact .inl rfl | exact .inr ⟨rfl, rfl, rfl, rfl⟩ | exact Nat.zero_le _ | constructor)
  rintro ⟨k, m, T⟩ ⟨hk, hT, hm, he⟩
  dsimp only at hk hT hm he
  obtain ⟨d1, d2, d3⟩ := dgN m hm
  have e0 := wrapN (n := k) (by omega)
  conv => whnf
  refine Fork.intro (fun q => ?_) (fun q => ?_)
  · have q : k < s := by have := of_decide_eq_true q; omega
    have e1 : IntKind.i64.wrap (IntKind.i64.wrap ((s : Int) - 1) - (k : Int)) = ((s - 1 - k : Nat) : Int) := by
      rw [IntWalk.i64_in ((s : Int) - 1) (by omega), IntWalk.i64_in _ (by omega)]; omega
    have hlen : (List.replicate (s - k) 0 ++ T).length = s := by rw [List.length_append, List.length_replicate]; omega
    have hset : (List.replicate (s - k) 0 ++ T).set (s - 1 - k) (m % 256) = List.replicate (s - (k + 1)) 0 ++ m % 256 :: T := by
      rw [List.set_append_left _ _ (by rw [List.length_replicate]; omega), show s - k = (s - (k + 1)) + 1 by omega, List.replicate_succ', List.set_append_right _ _ (by rw [List.length_replicate]; omega), List.length_replicate, show s - 1 - k - (s - (k + 1)) = 0 by omega, List.append_assoc]
      rfl
    generalize hrow : List.replicate (s - k) 0 ++ T = row at *
    conv => whnf
    refine ⟨by decide, ?_⟩
    conv => whnf
    rw [e1]
    refine ⟨rfl, ⟨by omega, by rw [hlen]; omega⟩, ?_⟩
    conv => whnf
    refine ⟨rfl, by rw [hlen]; show s - 1 - k < s; omega, fun x hx => ?_⟩
    conv => whnf
    refine ⟨rfl, m % 256, (by show octE (m % 256) = [u8D (IntKind.u8.wrap ((m : Int).tmod 256))]; rw [d1]; rfl), ?_⟩
    rw [show row.set (Int.toNat ((s - 1 - k : Nat) : Int)) (m % 256) = List.replicate (s - (k + 1)) 0 ++ m % 256 :: T from hset]
    conv => whnf
    refine ⟨by decide, ?_⟩
    conv => whnf
    rw [d2, e0]
    refine ⟨(k + 1, m / 256, m % 256 :: T), [], [], ?_, ⟨by show k + 1 ≤ s; omega, by show T.length + 1 = k + 1; omega, d3, ?_⟩, by show s - (k + 1) < s - k; omega⟩
    · repeat' (first | exact trivial | exact .inl (DLe.refl _) | exact .inl (DLe.nil _ _) | (refine .inr ⟨rfl, _, ?_, rfl⟩; rfl) | exact rfl | exact .inl rfl | exact .inr ⟨rfl, rfl, rfl, rfl⟩ | exact Nat.zero_le _ | constructor)
    · show bigL (s - (k + 1)) (m / 256) ++ m % 256 :: T = _
      rw [← he, show s - k = s - (k + 1) + 1 by omega, bigL, List.append_assoc]
      rfl
  · have q : k = s := by have := of_decide_eq_false q; omega
    subst q
    rw [Nat.sub_self] at he
    have he : T = bigL k n := he
    conv => whnf
    show octR (List.replicate (k - k) 0 ++ T) = octR (bigL k n)
    rw [Nat.sub_self, he]; rfl
theorem rAdd_fn (a b : List Nat) (ha : a.length ≤ 1000000) (hb : b.length ≤ 1000000) : Fn Tryz.prog 61 [octR a, octR b] fun d => d = octR (a ++ b) := by
  refine fnOf [] Tryz.func61 rfl (by kernel_rfl) (Nat.le_of_ble_eq_true rfl) ?_
  have hl : (a ++ b).length ≤ 2000000 := by rw [List.length_append]; omega
  conv => whnf
  refine ⟨Nat, octE, a, rfl, fun _ => rfl, by omega, (by show a.length * 1 ≤ _; omega), rfl, ?_⟩
  conv => whnf
  refine ⟨Nat, octE, a ++ b, List.map_append, fun _ => rfl, by omega, (by show (a ++ b).length * 1 ≤ _; omega), rfl, ?_⟩
  conv => whnf
theorem rGet4_fn (l : List Nat) (at_ : Nat) (hl : Byt l) (hlen : l.length ≤ 1000000) (h1 : at_ + 4 ≤ l.length) : Fn Tryz.prog 29 [octR l, intD at_, intD 4] fun d => d = .tup [u32D (get32 l at_), boolD true] := by
  refine fnOf [] Tryz.func29 rfl (by kernel_rfl) (Nat.le_of_ble_eq_true rfl) ?_
  have e1 : IntKind.i64.wrap ((l.length : Int) - (at_ : Int)) = ((l.length - at_ : Nat) : Int) := by rw [IntWalk.i64_in _ (by omega)]; omega
  have hd : ((l.drop at_).take 4).length = 4 := by rw [List.length_take, List.length_drop]; omega
  unfold get32 getW
  rw [decide_eq_true h1]
  dsimp only
  conv => whnf
  refine Fork.intro (fun q => absurd (of_decide_eq_true q) (by omega)) (fun _ => ?_)
  conv => whnf
  rw [e1]
  refine Fork.intro (fun q => absurd (of_decide_eq_true q) (by omega)) (fun _ => ?_)
  conv => whnf
  refine ⟨Nat, fun k => ⟨[(9, intD k), (8, u32D (bnum (((l.drop at_).take 4).take k))), (2, intD 4), (1, intD at_), (0, octR l)], [], 0, ([], 0)⟩, fun k => k ≤ 4, fun k => 4 - k, ⟨0, [], [], ?_, Nat.zero_le _⟩, ?_⟩
  · repeat' (first | exact trivial | exact .inl (DLe.refl _) | exact .inl (DLe.nil _ _) | (refine .inr ⟨rfl, _, ?_, rfl⟩; rfl) | exact rfl | exact .inl rfl | exact .inr ⟨rfl, rfl, rfl, rfl⟩ | exact Nat.zero_le _ | constructor)
  intro k hk
  replace hk : k ≤ 4 := hk
  have e0 := wrapN (n := k) (by omega)
  have e2 : IntKind.i64.wrap ((at_ : Int) + (k : Int)) = ((at_ + k : Nat) : Int) := wrapK (by omega) (by omega)
  conv => whnf
  refine Fork.intro (fun q => ?_) (fun q => ?_)
  · have q : k < 4 := by have := of_decide_eq_true q; omega
    conv => whnf
    rw [e2]
    refine ⟨rfl, ⟨by omega, by omega⟩, fun x hx => ?_⟩
    have hx : l[at_ + k]? = some x := hx
    have hx256 := hl.get hx
    have hx2 : ((l.drop at_).take 4)[k]? = some x := by rw [List.getElem?_take, if_pos q, List.getElem?_drop]; exact hx
    have hb := bnum_take hx2
    have hlt := bnum_lt (((l.drop at_).take 4).take k)
    have hw : IntKind.u32.wrap (IntKind.u32.wrap ((bnum (((l.drop at_).take 4).take k) : Int) * 256) + IntKind.u32.wrap (x : Int)) = (((bnum (((l.drop at_).take 4).take k) * 256 + x) % 4294967296 : Nat) : Int) := by
      rw [u32_wrap, u32_wrap, u32_wrap]; omega
    conv => whnf
    rw [hw, ← hb, e0]
    refine ⟨k + 1, [], [], ?_, by show k + 1 ≤ 4; omega, by show 4 - (k + 1) < 4 - k; omega⟩
    repeat' (first | exact trivial | exact .inl (DLe.refl _) | exact .inl (DLe.nil _ _) | (refine .inr ⟨rfl, _, ?_, rfl⟩; rfl) | exact rfl | exact .inl rfl | exact .inr ⟨rfl, rfl, rfl, rfl⟩ | exact Nat.zero_le _ | constructor)
  · have q : k = 4 := by have := of_decide_eq_false q; omega
    subst q
    rw [List.take_of_length_le (by omega)]
    conv => whnf
    rfl
theorem rGet2_fn (l : List Nat) (at_ : Nat) (hl : Byt l) (hlen : l.length ≤ 1000000) (h1 : at_ + 2 ≤ l.length) : Fn Tryz.prog 29 [octR l, intD at_, intD 2] fun d => d = .tup [u32D (get16 l at_), boolD true] := by
  refine fnOf [] Tryz.func29 rfl (by kernel_rfl) (Nat.le_of_ble_eq_true rfl) ?_
  have e1 : IntKind.i64.wrap ((l.length : Int) - (at_ : Int)) = ((l.length - at_ : Nat) : Int) := by rw [IntWalk.i64_in _ (by omega)]; omega
  have hd : ((l.drop at_).take 2).length = 2 := by rw [List.length_take, List.length_drop]; omega
  unfold get16 getW
  rw [decide_eq_true h1]
  dsimp only
  conv => whnf
  refine Fork.intro (fun q => absurd (of_decide_eq_true q) (by omega)) (fun _ => ?_)
  conv => whnf
  rw [e1]
  refine Fork.intro (fun q => absurd (of_decide_eq_true q) (by omega)) (fun _ => ?_)
  conv => whnf
  refine ⟨Nat, fun k => ⟨[(9, intD k), (8, u32D (bnum (((l.drop at_).take 2).take k))), (2, intD 2), (1, intD at_), (0, octR l)], [], 0, ([], 0)⟩, fun k => k ≤ 2, fun k => 2 - k, ⟨0, [], [], ?_, Nat.zero_le _⟩, ?_⟩
  · repeat' (first | exact trivial | exact .inl (DLe.refl _) | exact .inl (DLe.nil _ _) | (refine .inr ⟨rfl, _, ?_, rfl⟩; rfl) | exact rfl | exact .inl rfl | exact .inr ⟨rfl, rfl, rfl, rfl⟩ | exact Nat.zero_le _ | constructor)
  intro k hk
  replace hk : k ≤ 2 := hk
  have e0 := wrapN (n := k) (by omega)
  have e2 : IntKind.i64.wrap ((at_ : Int) + (k : Int)) = ((at_ + k : Nat) : Int) := wrapK (by omega) (by omega)
  conv => whnf
  refine Fork.intro (fun q => ?_) (fun q => ?_)
  · have q : k < 2 := by have := of_decide_eq_true q; omega
    conv => whnf
    rw [e2]
    refine ⟨rfl, ⟨by omega, by omega⟩, fun x hx => ?_⟩
    have hx : l[at_ + k]? = some x := hx
    have hx256 := hl.get hx
    have hx2 : ((l.drop at_).take 2)[k]? = some x := by rw [List.getElem?_take, if_pos q, List.getElem?_drop]; exact hx
    have hb := bnum_take hx2
    have hlt := bnum_lt (((l.drop at_).take 2).take k)
    have hw : IntKind.u32.wrap (IntKind.u32.wrap ((bnum (((l.drop at_).take 2).take k) : Int) * 256) + IntKind.u32.wrap (x : Int)) = (((bnum (((l.drop at_).take 2).take k) * 256 + x) % 4294967296 : Nat) : Int) := by
      rw [u32_wrap, u32_wrap, u32_wrap]; omega
    conv => whnf
    rw [hw, ← hb, e0]
    refine ⟨k + 1, [], [], ?_, by show k + 1 ≤ 2; omega, by show 2 - (k + 1) < 2 - k; omega⟩
    repeat' (first | exact trivial | exact .inl (DLe.refl _) | exact .inl (DLe.nil _ _) | (refine .inr ⟨rfl, _, ?_, rfl⟩; rfl) | exact rfl | exact .inl rfl | exact .inr ⟨rfl, rfl, rfl, rfl⟩ | exact Nat.zero_le _ | constructor)
  · have q : k = 2 := by have := of_decide_eq_false q; omega
    subst q
    rw [List.take_of_length_le (by omega)]
    conv => whnf
    have hx : bnum ((l.drop at_).take 2) % 65536 = bnum ((l.drop at_).take 2) := by
      refine Nat.mod_eq_of_lt ?_
      match (l.drop at_).take 2, hd, (fun c hc => hl c (List.mem_of_mem_drop (List.mem_of_mem_take hc)) : Byt ((l.drop at_).take 2)) with
      | [a, b], _, h =>
        have h1 := h a (by simp)
        have h2 := h b (by simp)
        show ((0 * 256 + a) % 4294967296 * 256 + b) % 4294967296 < 65536
        omega
    rw [hx]
    rfl
theorem rCut_fn (l : List Nat) (at_ n : Nat) (hlen : l.length ≤ 1000000) (h1 : at_ + n ≤ l.length) : Fn Tryz.prog 30 [octR l, intD at_, intD n] fun d => d = .tup [octR (cutP l at_ n), boolD true] := by
  refine FnX (fnOf [] Tryz.func30 rfl (by kernel_rfl) (Nat.le_of_ble_eq_true rfl) ?_)
  have e1 : IntKind.i64.wrap ((l.length : Int) - (at_ : Int)) = ((l.length - at_ : Nat) : Int) := by rw [IntWalk.i64_in _ (by omega)]; omega
  have hd : ((l.drop at_).take n).length = n := by rw [List.length_take, List.length_drop]; omega
  unfold cutP
  rw [decide_eq_true h1]
  dsimp only
  conv => whnf
  refine Fork.intro (fun q => absurd (of_decide_eq_true q) (by omega)) (fun _ => ?_)
  conv => whnf
  rw [e1]
  refine Fork.intro (fun q => absurd (of_decide_eq_true q) (by omega)) (fun _ => ?_)
  conv => whnf
  refine ⟨Nat, fun k => ⟨[(9, intD k), (8, .grow 0), (2, intD n), (1, intD at_), (0, octR l)], [(0, .grow Nat 5 1 octE (((l.drop at_).take n).take k))], 1, ([], 0)⟩, fun k => k ≤ n, fun k => n - k, ⟨0, [], [], ?_, Nat.zero_le _⟩, ?_⟩
  · repeat' (first | exact trivial | exact .inl (DLe.refl _) | exact .inl (DLe.nil _ _) | (refine .inr ⟨rfl, _, ?_, rfl⟩; rfl) | exact rfl | exact .inl rfl | exact .inr ⟨rfl, rfl, rfl, rfl⟩ | exact Nat.zero_le _ | constructor)
  intro k hk
  replace hk : k ≤ n := hk
  have e0 := wrapN (n := k) (by omega)
  have e2 : IntKind.i64.wrap ((at_ : Int) + (k : Int)) = ((at_ + k : Nat) : Int) := wrapK (by omega) (by omega)
  conv => whnf
  refine Fork.intro (fun q => ?_) (fun q => ?_)
  · have q : k < n := by have := of_decide_eq_true q; omega
    conv => whnf
    rw [e2]
    refine ⟨rfl, ⟨by omega, by omega⟩, fun x hx => ?_⟩
    have hx : l[at_ + k]? = some x := hx
    have hx2 : ((l.drop at_).take n)[k]? = some x := by rw [List.getElem?_take, if_pos q, List.getElem?_drop]; exact hx
    have ht : ((l.drop at_).take n).take (k + 1) = ((l.drop at_).take n).take k ++ [x] := by rw [List.take_add_one, hx2]; rfl
    have hk2 : (((l.drop at_).take n).take (k + 1)).length ≤ 1000000 := by rw [List.length_take]; omega
    conv => whnf
    (refine ⟨Nat.le_of_ble_eq_true rfl, ?_⟩; conv => whnf)
    refine ⟨Nat, octE, ((l.drop at_).take n).take (k + 1), by rw [ht, List.map_append]; rfl, fun _ => rfl, by omega, (by show _ * 1 ≤ _; omega), rfl, ?_⟩
    conv => whnf
    rw [e0]
    refine ⟨k + 1, [(0, 1)], [], ?_, by show k + 1 ≤ n; omega, by show n - (k + 1) < n - k; omega⟩
    repeat' (first | exact trivial | exact .inl (DLe.refl _) | exact .inl (DLe.nil _ _) | (refine .inr ⟨rfl, _, ?_, rfl⟩; rfl) | exact rfl | exact .inl rfl | exact .inr ⟨rfl, rfl, rfl, rfl⟩ | exact Nat.zero_le _ | constructor)
  · have q : k = n := by have := of_decide_eq_false q; omega
    subst q
    rw [List.take_of_length_le (by omega)]
    conv => whnf
    exact DLe.refl _
end Go.Proofs.YtgodclgcfpmloaaGreatDoor.V
