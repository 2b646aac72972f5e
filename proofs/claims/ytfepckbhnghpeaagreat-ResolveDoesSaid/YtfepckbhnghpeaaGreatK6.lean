/-
  Ethernet frames of bytes: the program's and the document's, by value. Conditions: bytes, not too many; numbers of their types.
  ARP packets of bytes: the program's and the document's, by value. Conditions: bytes, not too many; numbers of their types.
  ARP packets of bytes: the document's, by value. Conditions: bytes, not too many; numbers of their types.
-/
import Derived.Test.YtfepckbhnghpeaaGreatK5
import Derived.Test.YtfepckbhnghpeaaGreatK1
import Derived.Laws.IdiomCopy
namespace Go.Proofs.YtfepckbhnghpeaaGreat.V
open Go.RowKit
attribute [local irreducible] Fn FnN FnR OpVC DLe

def m6D (m : List Nat) : List D := m.map fun (x : Nat) => u8D (x : Int)
structure Frm where
  dst : List Nat
  src : List Nat
  type : Nat
  data : List Nat
def frmD (x : Frm) : List D := m6D x.dst ++ (m6D x.src ++ [u16D x.type, octR x.data])
/-! ### The document's -/
end Go.Proofs.YtfepckbhnghpeaaGreat.V
namespace Go.Proofs.YtfepckbhnghpeaaGreat.V
open Go.RowKit
attribute [local irreducible] Fn FnN FnR OpVC DLe

structure Arp where
  op : Nat
  srcMac : List Nat
  srcIP : Nat
  dstMac : List Nat
  dstIP : Nat
def arpD (x : Arp) : List D := u16D x.op :: (m6D x.srcMac ++ (u32D x.srcIP :: (m6D x.dstMac ++ [u32D x.dstIP])))
def firstA : List Nat := [0, 1, 8, 0, 6, 4]
def uniB (m : List Nat) : Bool := decide (m.getD 0 0 % 2 = 0) && !decide (m = [0, 0, 0, 0, 0, 0])
theorem arpFirst_fn : Fn Tryz.prog 86 [] fun d => d = octR firstA := by
  refine FnX (fnOf [] Tryz.func86 rfl (by kernel_rfl) (Nat.le_of_ble_eq_true rfl) ?_)
  conv => whnf
  (refine ⟨Nat.le_of_ble_eq_true rfl, ?_⟩; conv => whnf)
  exact dleLit (L := firstA) octE_flat
end Go.Proofs.YtfepckbhnghpeaaGreat.V
namespace Go.Proofs.YtfepckbhnghpeaaGreat.V
open Go.RowKit
attribute [local irreducible] Fn FnN FnR OpVC DLe

theorem rSame_fn (a b : List Nat) (ha : a.length ≤ 1000000) : Fn Tryz.prog 40 [octR a, octR b] fun d => d = boolD (decide (a = b)) := by
  refine fnOf [] Tryz.func40 rfl (by kernel_rfl) (Nat.le_of_ble_eq_true rfl) ?_
  conv => whnf
  refine Fork.intro (fun q => ?_) (fun q => ?_)
  · rw [decide_eq_false (show ¬ a = b by rintro rfl; exact ndT q rfl)]
    conv => whnf
    try rfl
  have q : a.length = b.length := by have := ndF q; omega
  conv => whnf
  refine ⟨Nat, fun k => ⟨[(5, intD k), (1, octR b), (0, octR a)], [], 0, ([], 0)⟩, fun k => k ≤ a.length ∧ a.take k = b.take k, fun k => a.length - k, ⟨0, [], [], ?_, Nat.zero_le _, rfl⟩, ?_⟩
  · repeat' (first | exact trivial | exact .inl (DLe.refl _) | exact .inl (DLe.nil _ _) | (refine .inr ⟨rfl, _, ?_, rfl⟩; rfl) | exact rfl | exact .inl rfl | exact .inr ⟨rfl, rfl, rfl, rfl⟩ | exact Nat.zero_le _ | constructor)
  rintro k ⟨hk, he⟩
  have e0 := wrapN (n := k) (by omega)
  conv => whnf
  refine Fork.intro (fun q1 => ?_) (fun q1 => ?_)
  · have q1 : k < a.length := by have := of_decide_eq_true q1; omega
    obtain ⟨x, hx⟩ : ∃ x, a[k]? = some x := ⟨_, List.getElem?_eq_getElem q1⟩
    obtain ⟨y, hy⟩ : ∃ y, b[k]? = some y := ⟨_, List.getElem?_eq_getElem (by omega)⟩
    conv => whnf
    refine ⟨rfl, ⟨by omega, by omega⟩, fun x' hx' => ?_⟩
    obtain rfl : x = x' := Option.some.inj (hx.symm.trans hx')
    conv => whnf
    refine ⟨rfl, ⟨by omega, by omega⟩, fun y' hy' => ?_⟩
    obtain rfl : y = y' := Option.some.inj (hy.symm.trans hy')
    conv => whnf
    refine Fork.intro (fun q2 => ?_) (fun q2 => ?_)
    · rw [decide_eq_false (show ¬ a = b by rintro rfl; rw [hx] at hy; injection hy with hy; exact ndT q2 (by omega))]
      conv => whnf
      try rfl
    · have q2 : x = y := by have := ndF q2; omega
      subst q2
      conv => whnf
      rw [e0]
      refine ⟨k + 1, [], [], ?_, ⟨by show k + 1 ≤ a.length; omega, by rw [List.take_add_one, List.take_add_one, hx, hy, he]⟩, by show a.length - (k + 1) < a.length - k; omega⟩
      repeat' (first | exact trivial | exact .inl (DLe.refl _) | exact .inl (DLe.nil _ _) | (refine .inr ⟨rfl, _, ?_, rfl⟩; rfl) | exact rfl | exact .inl rfl | exact .inr ⟨rfl, rfl, rfl, rfl⟩ | exact Nat.zero_le _ | constructor)
  · have q1 : k = a.length := by have := of_decide_eq_false q1; omega
    rw [decide_eq_true (show a = b by
      rw [← List.take_length (l := a), ← q1, he, q1, q, List.take_length])]
    conv => whnf
    try rfl
theorem rMac_fn (x0 x1 x2 x3 x4 x5 : Nat) : Fn Tryz.prog 76 [.agg (m6D [x0, x1, x2, x3, x4, x5])] fun d => d = octR [x0, x1, x2, x3, x4, x5] := by
  refine fnOf [] Tryz.func76 rfl (by kernel_rfl) (Nat.le_of_ble_eq_true rfl) ?_
  conv => whnf
  refine ⟨Nat, fun k => ⟨[(4, intD k), (3, .grow 1), (1, .loc 0 0)], [(1, .grow Nat 5 1 octE ([x0, x1, x2, x3, x4, x5].take k)), (0, .cells 23 (m6D [x0, x1, x2, x3, x4, x5]))], 2, ([], 0)⟩, fun k => k ≤ 6, fun k => 6 - k, ⟨0, [], [], ?_, Nat.zero_le _⟩, ?_⟩
  · repeat' (first | exact trivial | exact .inl (DLe.refl _) | exact .inl (DLe.nil _ _) | (refine .inr ⟨rfl, _, ?_, rfl⟩; rfl) | exact rfl | exact .inl rfl | exact .inr ⟨rfl, rfl, rfl, rfl⟩ | exact Nat.zero_le _ | constructor)
  intro k hk
  rcases (by have : k ≤ 6 := hk; omega : k = 0 ∨ k = 1 ∨ k = 2 ∨ k = 3 ∨ k = 4 ∨ k = 5 ∨ k = 6) with rfl | rfl | rfl | rfl | rfl | rfl | rfl
  · conv => whnf
    refine ⟨by decide, ?_⟩
    conv => whnf
    (refine ⟨Nat.le_of_ble_eq_true rfl, ?_⟩; conv => whnf)
    refine ⟨Nat, octE, [x0], rfl, fun _ => rfl, Nat.le_of_ble_eq_true rfl, Nat.le_of_ble_eq_true rfl, rfl, ?_⟩
    conv => whnf
    refine ⟨1, [(1, 2)], [], ?_, by decide, by decide⟩
    repeat' (first | exact trivial | exact .inl (DLe.refl _) | exact .inl (DLe.nil _ _) | (refine .inr ⟨rfl, _, ?_, rfl⟩; rfl) | exact rfl | exact .inl rfl | exact .inr ⟨rfl, rfl, rfl, rfl⟩ | exact Nat.zero_le _ | constructor)
  · conv => whnf
    refine ⟨by decide, ?_⟩
    conv => whnf
    (refine ⟨Nat.le_of_ble_eq_true rfl, ?_⟩; conv => whnf)
    refine ⟨Nat, octE, [x0, x1], rfl, fun _ => rfl, Nat.le_of_ble_eq_true rfl, Nat.le_of_ble_eq_true rfl, rfl, ?_⟩
    conv => whnf
    refine ⟨2, [(1, 2)], [], ?_, by decide, by decide⟩
    repeat' (first | exact trivial | exact .inl (DLe.refl _) | exact .inl (DLe.nil _ _) | (refine .inr ⟨rfl, _, ?_, rfl⟩; rfl) | exact rfl | exact .inl rfl | exact .inr ⟨rfl, rfl, rfl, rfl⟩ | exact Nat.zero_le _ | constructor)
  · conv => whnf
    refine ⟨by decide, ?_⟩
    conv => whnf
    (refine ⟨Nat.le_of_ble_eq_true rfl, ?_⟩; conv => whnf)
    refine ⟨Nat, octE, [x0, x1, x2], rfl, fun _ => rfl, Nat.le_of_ble_eq_true rfl, Nat.le_of_ble_eq_true rfl, rfl, ?_⟩
    conv => whnf
    refine ⟨3, [(1, 2)], [], ?_, by decide, by decide⟩
    repeat' (first | exact trivial | exact .inl (DLe.refl _) | exact .inl (DLe.nil _ _) | (refine .inr ⟨rfl, _, ?_, rfl⟩; rfl) | exact rfl | exact .inl rfl | exact .inr ⟨rfl, rfl, rfl, rfl⟩ | exact Nat.zero_le _ | constructor)
  · conv => whnf
    refine ⟨by decide, ?_⟩
    conv => whnf
    (refine ⟨Nat.le_of_ble_eq_true rfl, ?_⟩; conv => whnf)
    refine ⟨Nat, octE, [x0, x1, x2, x3], rfl, fun _ => rfl, Nat.le_of_ble_eq_true rfl, Nat.le_of_ble_eq_true rfl, rfl, ?_⟩
    conv => whnf
    refine ⟨4, [(1, 2)], [], ?_, by decide, by decide⟩
    repeat' (first | exact trivial | exact .inl (DLe.refl _) | exact .inl (DLe.nil _ _) | (refine .inr ⟨rfl, _, ?_, rfl⟩; rfl) | exact rfl | exact .inl rfl | exact .inr ⟨rfl, rfl, rfl, rfl⟩ | exact Nat.zero_le _ | constructor)
  · conv => whnf
    refine ⟨by decide, ?_⟩
    conv => whnf
    (refine ⟨Nat.le_of_ble_eq_true rfl, ?_⟩; conv => whnf)
    refine ⟨Nat, octE, [x0, x1, x2, x3, x4], rfl, fun _ => rfl, Nat.le_of_ble_eq_true rfl, Nat.le_of_ble_eq_true rfl, rfl, ?_⟩
    conv => whnf
    refine ⟨5, [(1, 2)], [], ?_, by decide, by decide⟩
    repeat' (first | exact trivial | exact .inl (DLe.refl _) | exact .inl (DLe.nil _ _) | (refine .inr ⟨rfl, _, ?_, rfl⟩; rfl) | exact rfl | exact .inl rfl | exact .inr ⟨rfl, rfl, rfl, rfl⟩ | exact Nat.zero_le _ | constructor)
  · conv => whnf
    refine ⟨by decide, ?_⟩
    conv => whnf
    (refine ⟨Nat.le_of_ble_eq_true rfl, ?_⟩; conv => whnf)
    refine ⟨Nat, octE, [x0, x1, x2, x3, x4, x5], rfl, fun _ => rfl, Nat.le_of_ble_eq_true rfl, Nat.le_of_ble_eq_true rfl, rfl, ?_⟩
    conv => whnf
    refine ⟨6, [(1, 2)], [], ?_, by decide, by decide⟩
    repeat' (first | exact trivial | exact .inl (DLe.refl _) | exact .inl (DLe.nil _ _) | (refine .inr ⟨rfl, _, ?_, rfl⟩; rfl) | exact rfl | exact .inl rfl | exact .inr ⟨rfl, rfl, rfl, rfl⟩ | exact Nat.zero_le _ | constructor)
  · conv => whnf
    rfl
def putA (p : Arp) : List Nat := (firstA ++ b2 p.op) ++ (p.srcMac ++ b4 p.srcIP) ++ (p.dstMac ++ b4 p.dstIP)
set_option maxHeartbeats 2000000 in
theorem rPutA_fn (op sip dip x0 x1 x2 x3 x4 x5 y0 y1 y2 y3 y4 y5 : Nat) (h0 : op < 65536) (h1 : sip < 4294967296) (h2 : dip < 4294967296) : Fn Tryz.prog 48 [.agg (arpD ⟨op, [x0, x1, x2, x3, x4, x5], sip, [y0, y1, y2, y3, y4, y5], dip⟩)] fun d => d = octR (putA ⟨op, [x0, x1, x2, x3, x4, x5], sip, [y0, y1, y2, y3, y4, y5], dip⟩) := by
  refine fnOf [(2, [0, 1, 2, 4, 5, 3, 6, 7, 8, 9]), (3, [0, 1, 2, 4, 5, 3, 6, 7, 8, 9])] Tryz.func48 rfl (by kernel_rfl) (Nat.le_of_ble_eq_true rfl) ?_
  have p1 := rPut_fn sip 4 h1 (by decide)
  have p2 := rPut_fn dip 4 h2 (by decide)
  rw [bigL_four] at p1 p2
  have m1 := rMac_fn x0 x1 x2 x3 x4 x5
  have m2 := rMac_fn y0 y1 y2 y3 y4 y5
  have a1 := rAdd_fn [x0, x1, x2, x3, x4, x5] (b4 sip) (Nat.le_of_ble_eq_true rfl) (by simp [b4])
  have a2 := rAdd_fn [y0, y1, y2, y3, y4, y5] (b4 dip) (Nat.le_of_ble_eq_true rfl) (by simp [b4])
  have a3 := rAdd_fn (firstA ++ b2 op) ([x0, x1, x2, x3, x4, x5] ++ b4 sip) (by simp [firstA, b2]) (by simp [b4])
  have a4 := rAdd_fn ((firstA ++ b2 op) ++ ([x0, x1, x2, x3, x4, x5] ++ b4 sip)) ([y0, y1, y2, y3, y4, y5] ++ b4 dip) (by simp [firstA, b2, b4]) (by simp [b4])
  have a3' : Fn Tryz.prog 66 [.lit 1 ((firstA ++ b2 op).map octE), octR ([x0, x1, x2, x3, x4, x5] ++ b4 sip)] fun d => d = octR ((firstA ++ b2 op) ++ ([x0, x1, x2, x3, x4, x5] ++ b4 sip)) :=
    FnLe a3 fun C vs hr => reps_one (l := []) (r := [octR ([x0, x1, x2, x3, x4, x5] ++ b4 sip)]) (dleLit octE_flat) hr
  have c1 : IntKind.u8.wrap (IntKind.u16.wrap ((op : Int).tdiv 256)) = ((op / 256 % 256 : Nat) : Int) := by
    rw [Int.tdiv_eq_ediv_of_nonneg (by omega), u16_wrap, u8_small (by omega)]; omega
  have c2 : IntKind.u8.wrap ((op : Int).tmod 256) = ((op % 256 : Nat) : Int) := by
    rw [Int.tmod_eq_emod_of_nonneg (by omega), u8_small (by omega)]; omega
  conv => whnf
  refine ⟨by decide, ?_⟩
  conv => whnf
  refine ⟨by decide, ?_⟩
  conv => whnf
  simp only [c1, c2]
  (refine ⟨Nat.le_of_ble_eq_true rfl, ?_⟩; conv => whnf)
  (refine CallVC.pure (m1) rfl ?_; rintro _ rfl; conv => whnf)
  (refine CallVC.pure (p1) rfl ?_; rintro _ rfl; conv => whnf)
  (refine CallVC.pure (a1) rfl ?_; rintro _ rfl; conv => whnf)
  (refine CallVC.pure (a3') rfl ?_; rintro _ rfl; conv => whnf)
  (refine CallVC.pure (m2) rfl ?_; rintro _ rfl; conv => whnf)
  (refine CallVC.pure (p2) rfl ?_; rintro _ rfl; conv => whnf)
  (refine CallVC.pure (a2) rfl ?_; rintro _ rfl; conv => whnf)
  (refine CallVC.pure (a4) rfl ?_; rintro _ rfl; conv => whnf)
  rfl
end Go.Proofs.YtfepckbhnghpeaaGreat.V
