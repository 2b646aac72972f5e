/-
  Ethernet frames of bytes: the program's and the document's, by value. Conditions: bytes, not too many; numbers of their types.
  ARP packets of bytes: the program's and the document's, by value. Conditions: bytes, not too many; numbers of their types.
  ARP packets of bytes: the document's, by value. Conditions: bytes, not too many; numbers of their types.
-/
import Derived.Test.YtfepckbhnghpeaaK5
import Derived.Test.YtfepckbhnghpeaaK1
import Derived.Laws.IdiomCopy
namespace Go.Proofs.Ytfepckbhnghpeaa.V
open Go.RowKit
attribute [local irreducible] Fn FnN FnR OpVC DLe

def m6D (m : List Nat) : List D := m.map fun (x : Nat) => u8D (x : Int)
structure Frm where
  dst : List Nat
  src : List Nat
  type : Nat
  data : List Nat
def frm0 : Frm := ⟨[0, 0, 0, 0, 0, 0], [0, 0, 0, 0, 0, 0], 0, []⟩
def frmD (x : Frm) : List D := m6D x.dst ++ (m6D x.src ++ [u16D x.type, octR x.data])
abbrev frmR (r : Frm × Int) : D := .tup [.agg (frmD r.1), intD r.2]
def parseE (b : List Nat) : Frm × Int := match decide (b.length < 14) with
  | true => (frm0, 4)
  | false => match decide (get16 b 12 < 1536) with
    | true => (frm0, 3)
    | false => (⟨b.take 6, (b.drop 6).take 6, get16 b 12, cutP b 14 (b.length - 14)⟩, 0)
theorem frm0_le {e : Int} : DLe (.tup [.agg [u8D 0, u8D 0, u8D 0, u8D 0, u8D 0, u8D 0, u8D 0, u8D 0, u8D 0, u8D 0, u8D 0, u8D 0, u16D 0, .v (.slice none 0 0)], intD e]) (frmR (frm0, e)) :=
  dleTup ⟨dleAgg ⟨DLe.refl _, DLe.refl _, DLe.refl _, DLe.refl _, DLe.refl _, DLe.refl _, DLe.refl _, DLe.refl _, DLe.refl _, DLe.refl _, DLe.refl _, DLe.refl _, DLe.refl _, DLe.nil _ _, trivial⟩, DLe.refl _, trivial⟩
theorem six_of {l : List Nat} (h : 6 ≤ l.length) : ∃ a b c d e f r, l = a :: b :: c :: d :: e :: f :: r := by
  match l, h with
  | a :: b :: c :: d :: e :: f :: r, _ => exact ⟨a, b, c, d, e, f, r, rfl⟩
  | [], h => simp at h
  | [_], h => simp at h
  | [_, _], h => simp at h
  | [_, _, _], h => simp at h
  | [_, _, _, _], h => simp at h
  | [_, _, _, _, _], h => simp at h
/-! ### The document's -/
set_option maxRecDepth 10000 in
theorem rMacAt_fn (l : List Nat) (at_ : Nat) (hl : l.length ≤ 100000) (h : at_ + 6 ≤ l.length) : Fn Try.prog 38 [octR l, intD at_] fun d => d = .agg (m6D ((l.drop at_).take 6)) := by
  refine fnOf [] Try.func38 rfl (by kernel_rfl) (Nat.le_of_ble_eq_true rfl) ?_
  obtain ⟨x0, x1, x2, x3, x4, x5, r, hr⟩ := six_of (l := l.drop at_) (by rw [List.length_drop]; omega)
  have hg : ∀ k, l[at_ + k]? = (x0 :: x1 :: x2 :: x3 :: x4 :: x5 :: r)[k]? := fun k => by rw [← hr, List.getElem?_drop]
  rw [show (l.drop at_).take 6 = [x0, x1, x2, x3, x4, x5] by rw [hr]; rfl]
  have e : ∀ k : Nat, k ≤ 6 → IntKind.i64.wrap ((at_ : Int) + (k : Int)) = ((at_ + k : Nat) : Int) := fun k hk => wrapK (by omega) (by omega)
  conv => whnf
  refine ⟨Nat, fun k => ⟨[(6, intD k), (5, .loc 1 0), (4, .loc 0 0), (1, intD at_), (0, octR l)], [(0, .cells 23 (m6D [0, 0, 0, 0, 0, 0])), (1, .cells 23 (m6D (match k with | 0 => [0, 0, 0, 0, 0, 0] | 1 => [x0, 0, 0, 0, 0, 0] | 2 => [x0, x1, 0, 0, 0, 0] | 3 => [x0, x1, x2, 0, 0, 0] | 4 => [x0, x1, x2, x3, 0, 0] | 5 => [x0, x1, x2, x3, x4, 0] | _ => [x0, x1, x2, x3, x4, x5])))], 2, ([], 0)⟩, fun k => k ≤ 6, fun k => 6 - k, ⟨0, [], [], ?_, Nat.zero_le _⟩, ?_⟩
  · repeat' (first | exact trivial | exact .inl (DLe.refl _) | exact .inl (DLe.nil _ _) | (refine .inr ⟨rfl, _, ?_, rfl⟩; rfl) | exact rfl | exact .inl rfl | exact .inr ⟨rfl, rfl, rfl, rfl⟩ | exact Nat.zero_le _ | constructor)
  intro k hk
  rcases (by have : k ≤ 6 := hk; omega : k = 0 ∨ k = 1 ∨ k = 2 ∨ k = 3 ∨ k = 4 ∨ k = 5 ∨ k = 6) with rfl | rfl | rfl | rfl | rfl | rfl | rfl
  · have ek : IntKind.i64.wrap ((at_ : Int) + ((0 : Nat) : Int)) = ((at_ + 0 : Nat) : Int) := e 0 (by decide)
    have hk : l[at_ + 0]? = some x0 := hg 0
    conv => whnf
    rw [ek]
    refine ⟨rfl, ⟨by omega, by omega⟩, fun y hy => ?_⟩
    obtain rfl : x0 = y := Option.some.inj (hk.symm.trans hy)
    conv => whnf
    refine ⟨by decide, ?_⟩
    conv => whnf
    refine ⟨1, [], [], ?_, by decide, by decide⟩
    repeat' (first | exact trivial | exact .inl (DLe.refl _) | exact .inl (DLe.nil _ _) | (refine .inr ⟨rfl, _, ?_, rfl⟩; rfl) | exact rfl | exact .inl rfl | exact .inr ⟨rfl, rfl, rfl, rfl⟩ | exact Nat.zero_le _ | constructor)
  · have ek : IntKind.i64.wrap ((at_ : Int) + ((1 : Nat) : Int)) = ((at_ + 1 : Nat) : Int) := e 1 (by decide)
    have hk : l[at_ + 1]? = some x1 := hg 1
    conv => whnf
    rw [ek]
    refine ⟨rfl, ⟨by omega, by omega⟩, fun y hy => ?_⟩
    obtain rfl : x1 = y := Option.some.inj (hk.symm.trans hy)
    conv => whnf
    refine ⟨by decide, ?_⟩
    conv => whnf
    refine ⟨2, [], [], ?_, by decide, by decide⟩
    repeat' (first | exact trivial | exact .inl (DLe.refl _) | exact .inl (DLe.nil _ _) | (refine .inr ⟨rfl, _, ?_, rfl⟩; rfl) | exact rfl | exact .inl rfl | exact .inr ⟨rfl, rfl, rfl, rfl⟩ | exact Nat.zero_le _ | constructor)
  · have ek : IntKind.i64.wrap ((at_ : Int) + ((2 : Nat) : Int)) = ((at_ + 2 : Nat) : Int) := e 2 (by decide)
    have hk : l[at_ + 2]? = some x2 := hg 2
    conv => whnf
    rw [ek]
    refine ⟨rfl, ⟨by omega, by omega⟩, fun y hy => ?_⟩
    obtain rfl : x2 = y := Option.some.inj (hk.symm.trans hy)
    conv => whnf
    refine ⟨by decide, ?_⟩
    conv => whnf
    refine ⟨3, [], [], ?_, by decide, by decide⟩
    repeat' (first | exact trivial | exact .inl (DLe.refl _) | exact .inl (DLe.nil _ _) | (refine .inr ⟨rfl, _, ?_, rfl⟩; rfl) | exact rfl | exact .inl rfl | exact .inr ⟨rfl, rfl, rfl, rfl⟩ | exact Nat.zero_le _ | constructor)
  · have ek : IntKind.i64.wrap ((at_ : Int) + ((3 : Nat) : Int)) = ((at_ + 3 : Nat) : Int) := e 3 (by decide)
    have hk : l[at_ + 3]? = some x3 := hg 3
    conv => whnf
    rw [ek]
    refine ⟨rfl, ⟨by omega, by omega⟩, fun y hy => ?_⟩
    obtain rfl : x3 = y := Option.some.inj (hk.symm.trans hy)
    conv => whnf
    refine ⟨by decide, ?_⟩
    conv => whnf
    refine ⟨4, [], [], ?_, by decide, by decide⟩
    repeat' (first | exact trivial | exact .inl (DLe.refl _) | exact .inl (DLe.nil _ _) | (refine .inr ⟨rfl, _, ?_, rfl⟩; rfl) | exact rfl | exact .inl rfl | exact .inr ⟨rfl, rfl, rfl, rfl⟩ | exact Nat.zero_le _ | constructor)
  · have ek : IntKind.i64.wrap ((at_ : Int) + ((4 : Nat) : Int)) = ((at_ + 4 : Nat) : Int) := e 4 (by decide)
    have hk : l[at_ + 4]? = some x4 := hg 4
    conv => whnf
    rw [ek]
    refine ⟨rfl, ⟨by omega, by omega⟩, fun y hy => ?_⟩
    obtain rfl : x4 = y := Option.some.inj (hk.symm.trans hy)
    conv => whnf
    refine ⟨by decide, ?_⟩
    conv => whnf
    refine ⟨5, [], [], ?_, by decide, by decide⟩
    repeat' (first | exact trivial | exact .inl (DLe.refl _) | exact .inl (DLe.nil _ _) | (refine .inr ⟨rfl, _, ?_, rfl⟩; rfl) | exact rfl | exact .inl rfl | exact .inr ⟨rfl, rfl, rfl, rfl⟩ | exact Nat.zero_le _ | constructor)
  · have ek : IntKind.i64.wrap ((at_ : Int) + ((5 : Nat) : Int)) = ((at_ + 5 : Nat) : Int) := e 5 (by decide)
    have hk : l[at_ + 5]? = some x5 := hg 5
    conv => whnf
    rw [ek]
    refine ⟨rfl, ⟨by omega, by omega⟩, fun y hy => ?_⟩
    obtain rfl : x5 = y := Option.some.inj (hk.symm.trans hy)
    conv => whnf
    refine ⟨by decide, ?_⟩
    conv => whnf
    refine ⟨6, [], [], ?_, by decide, by decide⟩
    repeat' (first | exact trivial | exact .inl (DLe.refl _) | exact .inl (DLe.nil _ _) | (refine .inr ⟨rfl, _, ?_, rfl⟩; rfl) | exact rfl | exact .inl rfl | exact .inr ⟨rfl, rfl, rfl, rfl⟩ | exact Nat.zero_le _ | constructor)
  · conv => whnf
    rfl
set_option maxRecDepth 10000 in
set_option maxHeartbeats 1000000 in
theorem rParseE_fn (b : List Nat) (hb : Byt b) (hl : b.length ≤ 100000) : Fn Try.prog 11 [octR b] fun d => d = frmR (parseE b) := by
  refine FnX (fnOf [] Try.func11 rfl (by kernel_rfl) (Nat.le_of_ble_eq_true rfl) ?_)
  unfold parseE
  conv => whnf
  refine Fork.intro (fun q1 => ?_) (fun q1 => ?_)
  · rw [decide_eq_true (show b.length < 14 by have := of_decide_eq_true q1; omega)]
    conv => whnf
    exact frm0_le
  have q1 : ¬ b.length < 14 := by have := of_decide_eq_false q1; omega
  rw [decide_eq_false q1]
  dsimp only
  have hn := rGet2_fn b 12 hb (by omega) (by omega)
  have hc := rCut_fn b 14 (b.length - 14) (by omega) (by omega)
  have ht := get16_lt b 12
  have e14 : IntKind.i64.wrap ((b.length : Int) - 14) = ((b.length - 14 : Nat) : Int) := by rw [IntWalk.i64_in _ (by omega)]; omega
  obtain ⟨x0, x1, x2, x3, x4, x5, hx⟩ : ∃ x0 x1 x2 x3 x4 x5, b.take 6 = [x0, x1, x2, x3, x4, x5] := by
    obtain ⟨x0, x1, x2, x3, x4, x5, r, rfl⟩ := six_of (l := b) (by omega)
    exact ⟨_, _, _, _, _, _, rfl⟩
  obtain ⟨y0, y1, y2, y3, y4, y5, hy⟩ : ∃ x0 x1 x2 x3 x4 x5, (b.drop 6).take 6 = [x0, x1, x2, x3, x4, x5] := by
    obtain ⟨x0, x1, x2, x3, x4, x5, r, hr⟩ := six_of (l := b.drop 6) (by rw [List.length_drop]; omega)
    exact ⟨_, _, _, _, _, _, by rw [hr]; rfl⟩
  have hm1 := rMacAt_fn b 0 (by omega) (by omega)
  have hm2 := rMacAt_fn b 6 (by omega) (by omega)
  rw [List.drop_zero, hx] at hm1
  rw [hy] at hm2
  rw [hx, hy]
  generalize cutP b 14 (b.length - 14) = xd at *
  generalize get16 b 12 = t at *
  have et : IntKind.u16.wrap (t : Int) = (t : Int) := by rw [u16_wrap]; omega
  conv => whnf
  (refine CallVC.pure (hn) rfl ?_; rintro _ rfl; conv => whnf)
  refine Fork.intro (fun q2 => ?_) (fun q2 => ?_)
  · rw [decide_eq_true (show t < 1536 by have := of_decide_eq_true q2; omega)]
    conv => whnf
    exact frm0_le
  have q2 : ¬ t < 1536 := by have := of_decide_eq_false q2; omega
  rw [decide_eq_false q2]
  dsimp only
  conv => whnf
  rw [e14]
  (refine CallVC.pure (hc) rfl ?_; rintro _ rfl; conv => whnf)
  (refine CallVC.pure (hm1) rfl ?_; rintro _ rfl; conv => whnf)
  (refine CallVC.pure (hm2) rfl ?_; rintro _ rfl; conv => whnf)
  rw [et]
  exact DLe.refl _
end Go.Proofs.Ytfepckbhnghpeaa.V
namespace Go.Proofs.Ytfepckbhnghpeaa.V
open Go.RowKit
attribute [local irreducible] Fn FnN FnR OpVC DLe

structure Arp where
  op : Nat
  srcMac : List Nat
  srcIP : Nat
  dstMac : List Nat
  dstIP : Nat
def arpD (x : Arp) : List D := u16D x.op :: (m6D x.srcMac ++ (u32D x.srcIP :: (m6D x.dstMac ++ [u32D x.dstIP])))
def firstA : List Nat := [0, 1, 8, 0, 6, 4]
def uniB (m : List Nat) : Bool := decide (m.getD 0 0 % 2 = 0) && !decide (m = [0, 0, 0, 0, 0, 0])
theorem arpFirst_fn : Fn Try.prog 68 [] fun d => d = octR firstA := by
  refine FnX (fnOf [] Try.func68 rfl (by kernel_rfl) (Nat.le_of_ble_eq_true rfl) ?_)
  conv => whnf
  (refine ⟨Nat.le_of_ble_eq_true rfl, ?_⟩; conv => whnf)
  exact dleLit (L := firstA) octE_flat
end Go.Proofs.Ytfepckbhnghpeaa.V
namespace Go.Proofs.Ytfepckbhnghpeaa.V
open Go.RowKit
attribute [local irreducible] Fn FnN FnR OpVC DLe

theorem rSame_fn (a b : List Nat) (ha : a.length ≤ 1000000) : Fn Try.prog 13 [octR a, octR b] fun d => d = boolD (decide (a = b)) := by
  refine fnOf [] Try.func13 rfl (by kernel_rfl) (Nat.le_of_ble_eq_true rfl) ?_
  conv => whnf
  refine Fork.intro (fun q => ?_) (fun q => ?_)
  · rw [decide_eq_false (show ¬ a = b by rintro rfl; exact ndT q rfl)]
    conv => whnf
    try rfl
  have q : a.length = b.length := by have := ndF q; omega
  conv => whnf
  refine ⟨Nat, fun k => ⟨[(5, intD k), (1, octR b), (0, octR a)], [], 0, ([], 0)⟩, fun k => k ≤ a.length ∧ a.take k = b.take k, fun k => a.length - k, ⟨0, [], [], ?_, Nat.zero_le _, rfl⟩, ?_⟩
  · repeat' (first | exact trivial | exact .inl (DLe.refl _) | exact .inl (DLe.nil _ _) | (refine .inr ⟨rfl, _, ?_, rfl⟩; rfl) | exact rfl | exact .inl rfl | exact .inr ⟨rfl, rfl, rfl, rfl⟩ | exact Nat.zero_le _ | constructor)
  rintro k ⟨hk, he⟩
  have e0 := wrapN (n := k) (by omega)
  conv => whnf
  refine Fork.intro (fun q1 => ?_) (fun q1 => ?_)
  · have q1 : k < a.length := by have := of_decide_eq_true q1; omega
    obtain ⟨x, hx⟩ : ∃ x, a[k]? = some x := ⟨_, List.getElem?_eq_getElem q1⟩
    obtain ⟨y, hy⟩ : ∃ y, b[k]? = some y := ⟨_, List.getElem?_eq_getElem (by omega)⟩
    conv => whnf
    refine ⟨rfl, ⟨by omega, by omega⟩, fun x' hx' => ?_⟩
    obtain rfl : x = x' := Option.some.inj (hx.symm.trans hx')
    conv => whnf
    refine ⟨rfl, ⟨by omega, by omega⟩, fun y' hy' => ?_⟩
    obtain rfl : y = y' := Option.some.inj (hy.symm.trans hy')
    conv => whnf
    refine Fork.intro (fun q2 => ?_) (fun q2 => ?_)
    · rw [decide_eq_false (show ¬ a = b by rintro rfl; rw [hx] at hy; injection hy with hy; exact ndT q2 (by omega))]
      conv => whnf
      try rfl
    · have q2 : x = y := by have := ndF q2; omega
      subst q2
      conv => whnf
      rw [e0]
      refine ⟨k + 1, [], [], ?_, ⟨by show k + 1 ≤ a.length; omega, by rw [List.take_add_one, List.take_add_one, hx, hy, he]⟩, by show a.length - (k + 1) < a.length - k; omega⟩
      repeat' (first | exact trivial | exact .inl (DLe.refl _) | exact .inl (DLe.nil _ _) | (refine .inr ⟨rfl, _, ?_, rfl⟩; rfl) | exact rfl | exact .inl rfl | exact .inr ⟨rfl, rfl, rfl, rfl⟩ | exact Nat.zero_le _ | constructor)
  · have q1 : k = a.length := by have := of_decide_eq_false q1; omega
    rw [decide_eq_true (show a = b by
      rw [← List.take_length (l := a), ← q1, he, q1, q, List.take_length])]
    conv => whnf
    try rfl
def putA (p : Arp) : List Nat := (firstA ++ b2 p.op) ++ (p.srcMac ++ b4 p.srcIP) ++ (p.dstMac ++ b4 p.dstIP)
end Go.Proofs.Ytfepckbhnghpeaa.V
