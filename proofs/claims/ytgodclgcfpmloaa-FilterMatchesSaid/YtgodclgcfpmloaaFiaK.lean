/-
  What a filter sees of a packet, what a step asks of it, which filters may be: the program's, by value. Conditions: bytes, not too many; numbers of their types.
-/
import Derived.Test.YtgodclgcfpmloaaK5
import Derived.Test.YtgodclgcfpmloaaK8
namespace Go.Proofs.Ytgodclgcfpmloaa.V
open Go.RowKit

theorem fnStill {f : FuncId} {vs : List Value} {v : Value} (hb : hasBody Try.prog f) (h : ∀ w : World, Calls Try.prog f vs.toArray w fun e w' => e = .returned v ∧ w = w') : Fn Try.prog f (vs.map .v) fun d => d = .v v := by
  refine ⟨hb, fun w B args' hB hr => ?_⟩
  have e : args' = vs := by
    apply List.ext_getElem?
    intro i
    have hl : args'.length = vs.length := by rw [hr.1, List.length_map]
    cases hq : vs[i]? with
    | none =>
      have := List.getElem?_eq_none_iff.1 hq
      exact List.getElem?_eq_none (by omega)
    | some x =>
      have hi := (List.getElem?_eq_some_iff.1 hq).1
      obtain ⟨u, hu⟩ : ∃ u, args'[i]? = some u := ⟨args'[i]'(by omega), List.getElem?_eq_getElem _⟩
      have := rep_v (hr.2 i (.v x) u (by rw [List.getElem?_map, hq]; rfl) hu)
      rw [hu, this]
  subst e
  exact (h w).mono fun e w' ⟨h1, h2⟩ => ⟨_, _, rfl, h1, h2 ▸ Under.refl _ _, .v⟩
theorem inNet_fn (a n : Nat) (b : Int) (ha : a < 4294967296) (hn : n < 4294967296) : Fn Try.prog 34 [u32D a, u32D n, intD b] fun d => d = boolD (inB a n b) :=
  fnStill (vs := [.int .u32 a, .int .u32 n, .int .i64 b]) ⟨_, Try.func34, rfl⟩ (fun w => in_any a n b w (by omega) (by omega) (by omega) (by omega))
attribute [local irreducible] Fn FnN FnR OpVC DLe

/-! ### What is seen -/
structure Sn where
  ports : Bool
  src : Nat
  dst : Nat
  syn : Bool
def hasF (f k : Nat) : Bool := decide (f &&& k = k)
theorem hasF_eq (f k : Nat) (hf : f < 256) (hk : k < 256) : decide (IntKind.u8.wrap (((BitVec.ofInt IntKind.u8.bits (f : Int) &&& BitVec.ofInt IntKind.u8.bits (k : Int)).toNat : Nat) : Int) = (k : Int)) = hasF f k := by
  have h : (BitVec.ofInt 8 (f : Int) &&& BitVec.ofInt 8 (k : Int)).toNat = f &&& k := by
    rw [BitVec.toNat_and, BitVec.toNat_ofInt, BitVec.toNat_ofInt]
    congr 1 <;> omega
  have hl : f &&& k ≤ k := Nat.and_le_right
  rw [show (BitVec.ofInt IntKind.u8.bits (f : Int) &&& BitVec.ofInt IntKind.u8.bits (k : Int)).toNat = f &&& k from h, u8_small (by omega)]
  unfold hasF
  exact decide_eq_decide.2 (by omega)
def snOf : Body → Sn
  | .dgm x => ⟨true, x.src, x.dst, false⟩
  | .seg x => ⟨true, x.src, x.dst, hasF x.flags 2⟩
  | _ => ⟨false, 0, 0, false⟩
def seeP (p : Pkt) : Sn := snOf (bodyOf p).1
def seenD (p : Pkt) (s : Sn) : List D := pktD p ++ [boolD s.ports, intD s.src, intD s.dst, boolD s.syn]

theorem dgm_lt (src dst : Nat) (b : List Nat) : (parseU src dst b).1.src < 65536 ∧ (parseU src dst b).1.dst < 65536 := by
  unfold parseU
  repeat' split
  all_goals first | exact ⟨by decide, by decide⟩ | exact ⟨get16_lt _ _, get16_lt _ _⟩
theorem seg_lt (src dst : Nat) (b : List Nat) (hb : Byt b) : (parseT src dst b).1.src < 65536 ∧ (parseT src dst b).1.dst < 65536 ∧ (parseT src dst b).1.flags < 256 := by
  have h13 : b.getD 13 0 < 256 := by
    cases hq : b[13]? with
    | none => rw [List.getD_eq_getElem?_getD, hq]; decide
    | some x => rw [getD_of hq]; exact hb.get hq
  unfold parseT
  repeat' split
  all_goals first | exact ⟨by decide, by decide, by decide⟩ | exact ⟨get16_lt _ _, get16_lt _ _, h13⟩
def Body.fine : Body → Prop
  | .dgm x => x.src < 65536 ∧ x.dst < 65536
  | .seg x => x.src < 65536 ∧ x.dst < 65536 ∧ x.flags < 256
  | _ => True
theorem bodyOf_fine (p : Pkt) (h : p.ok) : (bodyOf p).1.fine := by
  have h1 := dgm_lt p.src p.dst p.data
  have h2 := seg_lt p.src p.dst p.data h.data
  unfold bodyOf bodyI bodyU bodyT
  repeat' split
  all_goals first | trivial | exact h1 | exact h2
theorem has_fn (x : Seg) (k : Nat) (hf : x.flags < 256) (hk : k < 256) : Fn Try.prog 33 [.agg (segD x), u8D k] fun d => d = boolD (hasF x.flags k) := by
  refine fnOf [] Try.func33 rfl (by kernel_rfl) (Nat.le_of_ble_eq_true rfl) ?_
  have he := hasF_eq x.flags k hf hk
  conv => whnf
  exact congrArg boolD he
def zeroSeen : List D := [u8D 0, u16D 0, boolD false, boolD false, u16D 0, u8D 0, u8D 0, u32D 0, u32D 0, .v (.slice none 0 0), .v (.slice none 0 0), boolD false, intD 0, intD 0, boolD false]
set_option maxHeartbeats 4000000 in
theorem look_fn (p : Pkt) (h : p.ok) (hl : p.data.length ≤ 100000) : Fn Try.prog 21 [.agg (pktD p)] fun d => d = .agg (seenD p (seeP p)) := by
  refine fnOf [(6, [1001, 0, 3, 6, 8, 10]), (9, [1001, 0, 3, 6, 8, 10])] Try.func21 rfl (by kernel_rfl) (Nat.le_of_ble_eq_true rfl) ?_
  have hb := body_fn p h hl
  have hfi := bodyOf_fine p h
  unfold seeP
  generalize bodyOf p = R at *
  obtain ⟨B, e⟩ := R
  dsimp only at hb hfi ⊢
  conv => whnf
  refine CallVC.pure hb rfl ?_
  rintro _ rfl
  cases B with
  | none =>
    conv => whnf
    refine op_assertNil (zv := #[.int .u16 0, .int .u16 0, .bool false, .slice none 0 0]) ttH rfl rfl (by kernel_rfl) rfl ?_
    conv => whnf
    refine op_assertNil (zv := #[.int .u16 0, .int .u16 0, .int .u32 0, .int .u32 0, .int .u8 0, .int .u8 0, .int .u16 0, .int .u16 0, .slice none 0 0, .slice none 0 0]) ttH rfl rfl (by kernel_rfl) rfl ?_
    conv => whnf
    rfl
  | icm x =>
    conv => whnf
    refine op_assertNot (zv := #[.int .u16 0, .int .u16 0, .bool false, .slice none 0 0]) ttH rfl rfl (by kernel_rfl) rfl (by decide) ?_
    conv => whnf
    refine op_assertNot (zv := #[.int .u16 0, .int .u16 0, .int .u32 0, .int .u32 0, .int .u8 0, .int .u8 0, .int .u16 0, .int .u16 0, .slice none 0 0, .slice none 0 0]) ttH rfl rfl (by kernel_rfl) rfl (by decide) ?_
    conv => whnf
    rfl
  | dgm x =>
    obtain ⟨f1, f2⟩ := hfi
    have e1 := u16_i64 x.src f1
    have e2 := u16_i64 x.dst f2
    conv => whnf
    refine op_assertIs ttH rfl rfl rfl ?_
    conv => whnf
    refine ⟨Unit, fun _ => ⟨[(3, .loc 2 0), (2, .loc 1 0)], [(2, .cells 50 (pktD p ++ [boolD true, intD (IntKind.i64.wrap (x.src : Int)), intD (IntKind.i64.wrap (x.dst : Int)), boolD false])), (1, .cells 50 zeroSeen)], 3, ([], 0)⟩, ?_, fun _ => ?_⟩
    · repeat' (first | (with_reducible refine And.intro ?_ ?_) | exact trivial | (refine ⟨(), [], [], ?_⟩; (repeat' (first | exact trivial | exact .inl (DLe.refl _) | exact .inl (DLe.nil _ _) | (refine .inr ⟨rfl, _, ?_, rfl⟩; rfl) | exact rfl | exact .inl rfl | exact .inr ⟨rfl, rfl, rfl, rfl⟩ | exact Nat.zero_le _ | constructor)); done) | (refine ⟨[], [], ?_⟩; (repeat' (first | exact trivial | exact .inl (DLe.refl _) | exact .inl (DLe.nil _ _) | (refine .inr ⟨rfl, _, ?_, rfl⟩; rfl) | exact rfl | exact .inl rfl | exact .inr ⟨rfl, rfl, rfl, rfl⟩ | exact Nat.zero_le _ | constructor)); done) | (refine And.intro ?_ ?_) | (conv => whnf))
    rw [e1, e2]
    conv => whnf
    rfl
  | seg x =>
    obtain ⟨f1, f2, f3⟩ := hfi
    have e1 := u16_i64 x.src f1
    have e2 := u16_i64 x.dst f2
    have hh := has_fn x 2 f3 (by decide)
    conv => whnf
    refine op_assertNot (zv := #[.int .u16 0, .int .u16 0, .bool false, .slice none 0 0]) ttH rfl rfl (by kernel_rfl) rfl (by decide) ?_
    conv => whnf
    refine op_assertIs ttH rfl rfl rfl ?_
    conv => whnf
    refine ⟨Unit, fun _ => ⟨[(7, .loc 3 0), (3, .loc 2 0), (2, .loc 1 0)], [(3, .cells 69 (segD x)), (2, .cells 50 (pktD p ++ [boolD true, intD (IntKind.i64.wrap (x.src : Int)), intD (IntKind.i64.wrap (x.dst : Int)), boolD false])), (1, .cells 50 zeroSeen)], 4, ([], 0)⟩, ?_, fun _ => ?_⟩
    · repeat' (first | (with_reducible refine And.intro ?_ ?_) | exact trivial | (refine ⟨(), [], [], ?_⟩; (repeat' (first | exact trivial | exact .inl (DLe.refl _) | exact .inl (DLe.nil _ _) | (refine .inr ⟨rfl, _, ?_, rfl⟩; rfl) | exact rfl | exact .inl rfl | exact .inr ⟨rfl, rfl, rfl, rfl⟩ | exact Nat.zero_le _ | constructor)); done) | (refine ⟨[], [], ?_⟩; (repeat' (first | exact trivial | exact .inl (DLe.refl _) | exact .inl (DLe.nil _ _) | (refine .inr ⟨rfl, _, ?_, rfl⟩; rfl) | exact rfl | exact .inl rfl | exact .inr ⟨rfl, rfl, rfl, rfl⟩ | exact Nat.zero_le _ | constructor)); done) | (refine And.intro ?_ ?_) | (conv => whnf))
    rw [e1, e2]
    conv => whnf
    refine CallVC.pure hh rfl ?_
    rintro _ rfl
    conv => whnf
    rfl
end Go.Proofs.Ytgodclgcfpmloaa.V
