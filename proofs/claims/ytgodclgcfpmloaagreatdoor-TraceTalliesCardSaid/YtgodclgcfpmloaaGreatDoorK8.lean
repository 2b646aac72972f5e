/-
  Ethernet frames of bytes: the program's and the document's, by value. Conditions: bytes, not too many; numbers of their types.
  ARP packets of bytes: the program's and the document's, by value. Conditions: bytes, not too many; numbers of their types.
  ARP packets of bytes: the document's, by value. Conditions: bytes, not too many; numbers of their types.
-/
import Derived.Test.YtgodclgcfpmloaaGreatDoorK7
import Derived.Test.YtgodclgcfpmloaaGreatDoorK4
namespace Go.Proofs.YtgodclgcfpmloaaGreatDoor.V
open Go.RowKit
attribute [local irreducible] Fn FnN FnR OpVC DLe

def m6D (m : List Nat) : List D := m.map fun (x : Nat) => u8D (x : Int)
structure Frm where
  dst : List Nat
  src : List Nat
  type : Nat
  data : List Nat
def frm0 : Frm := ⟨[0, 0, 0, 0, 0, 0], [0, 0, 0, 0, 0, 0], 0, []⟩
def frmD (x : Frm) : List D := m6D x.dst ++ (m6D x.src ++ [u16D x.type, octR x.data])
abbrev frmR (r : Frm × Int) : D := .tup [.agg (frmD r.1), intD r.2]
def parseE (b : List Nat) : Frm × Int := match decide (b.length < 14) with
  | true => (frm0, 4)
  | false => match decide (get16 b 12 < 1536) with
    | true => (frm0, 3)
    | false => (⟨b.take 6, (b.drop 6).take 6, get16 b 12, cutP b 14 (b.length - 14)⟩, 0)
theorem frm0_le {e : Int} : DLe (.tup [.agg [u8D 0, u8D 0, u8D 0, u8D 0, u8D 0, u8D 0, u8D 0, u8D 0, u8D 0, u8D 0, u8D 0, u8D 0, u16D 0, .v (.slice none 0 0)], intD e]) (frmR (frm0, e)) :=
  dleTup ⟨dleAgg ⟨DLe.refl _, DLe.refl _, DLe.refl _, DLe.refl _, DLe.refl _, DLe.refl _, DLe.refl _, DLe.refl _, DLe.refl _, DLe.refl _, DLe.refl _, DLe.refl _, DLe.refl _, DLe.nil _ _, trivial⟩, DLe.refl _, trivial⟩
theorem six_of {l : List Nat} (h : 6 ≤ l.length) : ∃ a b c d e f r, l = a :: b :: c :: d :: e :: f :: r := by
  match l, h with
  | a :: b :: c :: d :: e :: f :: r, _ => exact ⟨a, b, c, d, e, f, r, rfl⟩
  | [], h => simp at h
  | [_], h => simp at h
  | [_, _], h => simp at h
  | [_, _, _], h => simp at h
  | [_, _, _, _], h => simp at h
  | [_, _, _, _, _], h => simp at h
theorem etherMac_fn (l : List Nat) (h : 6 ≤ l.length) : Fn Tryz.prog 83 [octR l] fun d => d = .agg (m6D (l.take 6)) := by
  refine fnOf [] Tryz.func83 rfl (by kernel_rfl) (Nat.le_of_ble_eq_true rfl) ?_
  obtain ⟨x0, x1, x2, x3, x4, x5, r, rfl⟩ := six_of h
  conv => whnf
  refine ⟨⟨rfl, rfl⟩, ?_⟩
  conv => whnf
  refine op_copy (n := 6) (off := 0) (id := 1) (l := [u8D 0, u8D 0, u8D 0, u8D 0, u8D 0, u8D 0]) (enc := octE) (L := x0 :: x1 :: x2 :: x3 :: x4 :: x5 :: r) (l' := [u8D x0, u8D x1, u8D x2, u8D x3, u8D x4, u8D x5]) ttH rfl rfl rfl rfl rfl rfl rfl (fun _ => rfl) (by decide) (by simp) rfl ?_
  conv => whnf
  rfl
set_option maxRecDepth 10000 in
set_option maxHeartbeats 1000000 in
theorem etherParse_fn (b : List Nat) (hb : Byt b) (hl : b.length ≤ 100000) : Fn Tryz.prog 55 [octR b] fun d => d = frmR (parseE b) := by
  refine FnX (fnOf [(7, [0, 1, 3, 4, 6, 7, 2, 5, 8, 9, 10])] Tryz.func55 rfl (by kernel_rfl) (Nat.le_of_ble_eq_true rfl) ?_)
  have hn := octGet16_fn b 12 hb (by omega) (by decide)
  have hc := octCut_fn b 14 (b.length - 14) (by omega) (by decide) (by omega)
  unfold parseE
  conv => whnf
  refine Fork.intro (fun q1 => ?_) (fun q1 => ?_)
  · rw [decide_eq_true (show b.length < 14 by have := of_decide_eq_true q1; omega)]
    conv => whnf
    exact frm0_le
  have q1 : ¬ b.length < 14 := by have := of_decide_eq_false q1; omega
  rw [decide_eq_false q1]
  dsimp only
  have e14 : IntKind.i64.wrap ((b.length : Int) - 14) = ((b.length - 14 : Nat) : Int) := by rw [IntWalk.i64_in _ (by omega)]; omega
  obtain ⟨x0, x1, x2, x3, x4, x5, hx⟩ : ∃ x0 x1 x2 x3 x4 x5, b.take 6 = [x0, x1, x2, x3, x4, x5] := by
    obtain ⟨x0, x1, x2, x3, x4, x5, r, rfl⟩ := six_of (l := b) (by omega)
    exact ⟨_, _, _, _, _, _, rfl⟩
  obtain ⟨y0, y1, y2, y3, y4, y5, hy⟩ : ∃ x0 x1 x2 x3 x4 x5, (b.drop 6).take 6 = [x0, x1, x2, x3, x4, x5] := by
    obtain ⟨x0, x1, x2, x3, x4, x5, r, hr⟩ := six_of (l := b.drop 6) (by rw [List.length_drop]; omega)
    exact ⟨_, _, _, _, _, _, by rw [hr]; rfl⟩
  have hm1 := etherMac_fn (b.take 6) (by rw [List.length_take]; omega)
  have hm2 := etherMac_fn ((b.take 12).drop 6) (by rw [List.length_drop, List.length_take]; omega)
  rw [show (b.take 6).take 6 = [x0, x1, x2, x3, x4, x5] by rw [List.take_take, Nat.min_self, hx]] at hm1
  rw [show ((b.take 12).drop 6).take 6 = [y0, y1, y2, y3, y4, y5] by
    rw [show (b.take 12).drop 6 = (b.drop 6).take 6 from List.drop_take, List.take_take, Nat.min_self, hy]] at hm2
  rw [hx, hy]
  generalize cutP b 14 (b.length - 14) = xd at *
  generalize get16 b 12 = t at *
  conv => whnf
  (refine CallVC.pure (hn) rfl ?_; rintro _ rfl; conv => whnf)
  refine Fork.intro (fun q2 => ?_) (fun q2 => ?_)
  · rw [decide_eq_true (show t < 1536 by have := of_decide_eq_true q2; omega)]
    conv => whnf
    exact frm0_le
  have q2 : ¬ t < 1536 := by have := of_decide_eq_false q2; omega
  rw [decide_eq_false q2]
  dsimp only
  conv => whnf
  rw [e14]
  (refine CallVC.pure (hc) rfl ?_; rintro _ rfl; conv => whnf)
  refine ⟨rfl, ⟨by omega, by omega, by omega⟩, ?_⟩
  conv => whnf
  refine ⟨rfl, ⟨by omega, by omega, by omega⟩, ?_⟩
  conv => whnf
  (refine CallVC.pure (hm1) rfl ?_; rintro _ rfl; conv => whnf)
  (refine CallVC.pure (hm2) rfl ?_; rintro _ rfl; conv => whnf)
  exact DLe.refl _

/-! ### The document's -/
set_option maxRecDepth 10000 in
theorem rMacAt_fn (l : List Nat) (at_ : Nat) (hl : l.length ≤ 100000) (h : at_ + 6 ≤ l.length) : Fn Tryz.prog 31 [octR l, intD at_] fun d => d = .agg (m6D ((l.drop at_).take 6)) := by
  refine fnOf [] Tryz.func31 rfl (by kernel_rfl) (Nat.le_of_ble_eq_true rfl) ?_
  obtain ⟨x0, x1, x2, x3, x4, x5, r, hr⟩ := six_of (l := l.drop at_) (by rw [List.length_drop]; omega)
  have hg : ∀ k, l[at_ + k]? = (x0 :: x1 :: x2 :: x3 :: x4 :: x5 :: r)[k]? := fun k => by rw [← hr, List.getElem?_drop]
  rw [show (l.drop at_).take 6 = [x0, x1, x2, x3, x4, x5] by rw [hr]; rfl]
  have e : ∀ k : Nat, k ≤ 6 → IntKind.i64.wrap ((at_ : Int) + (k : Int)) = ((at_ + k : Nat) : Int) := fun k hk => wrapK (by omega) (by omega)
  conv => whnf
  refine ⟨Nat, fun k => ⟨[(6, intD k), (5, .loc 1 0), (4, .loc 0 0), (1, intD at_), (0, octR l)], [(0, .cells 40 (m6D [0, 0, 0, 0, 0, 0])), (1, .cells 40 (m6D (match k with | 0 => [0, 0, 0, 0, 0, 0] | 1 => [x0, 0, 0, 0, 0, 0] | 2 => [x0, x1, 0, 0, 0, 0] | 3 => [x0, x1, x2, 0, 0, 0] | 4 => [x0, x1, x2, x3, 0, 0] | 5 => [x0, x1, x2, x3, x4, 0] | _ => [x0, x1, x2, x3, x4, x5])))], 2, ([], 0)⟩, fun k => k ≤ 6, fun k => 6 - k, ⟨0, [], [], ?_, Nat.zero_le _⟩, ?_⟩
  · repeat' (first | exact trivial | exact .inl (DLe.refl _) | exact .inl (DLe.nil _ _) | (refine .inr ⟨rfl, _, ?_, rfl⟩; rfl) | exact rfl | exact .inl rfl | exact .inr ⟨rfl, rfl, rfl, rfl⟩ | exact Nat.zero_le _ | constructor)
  intro k hk
  rcases (by have : k ≤ 6 := hk; omega : k = 0 ∨ k = 1 ∨ k = 2 ∨ k = 3 ∨ k = 4 ∨ k = 5 ∨ k = 6) with rfl | rfl | rfl | rfl | rfl | rfl | rfl
  · have ek : IntKind.i64.wrap ((at_ : Int) + ((0 : Nat) : Int)) = ((at_ + 0 : Nat) : Int) := e 0 (by decide)
    have hk : l[at_ + 0]? = some x0 := hg 0
    conv => whnf
    rw [ek]
    refine ⟨rfl, ⟨by omega, by omega⟩, fun y hy => ?_⟩
    obtain rfl : x0 = y := Option.some.inj (hk.symm.trans hy)
    conv => whnf
    refine ⟨by decide, ?_⟩
    conv => whnf
    refine ⟨1, [], [], ?_, by decide, by decide⟩
    repeat' (first | exact trivial | exact .inl (DLe.refl _) | exact .inl (DLe.nil _ _) | (refine .inr ⟨rfl, _, ?_, rfl⟩; rfl) | exact rfl | exact .inl rfl | exact .inr ⟨rfl, rfl, rfl, rfl⟩ | exact Nat.zero_le _ | constructor)
  · have ek : IntKind.i64.wrap ((at_ : Int) + ((1 : Nat) : Int)) = ((at_ + 1 : Nat) : Int) := e 1 (by decide)
    have hk : l[at_ + 1]? = some x1 := hg 1
    conv => whnf
    rw [ek]
    refine ⟨rfl, ⟨by omega, by omega⟩, fun y hy => ?_⟩
    obtain rfl : x1 = y := Option.some.inj (hk.symm.trans hy)
    conv => whnf
    refine ⟨by decide, ?_⟩
    conv => whnf
    refine ⟨2, [], [], ?_, by decide, by decide⟩
    repeat' (first | exact trivial | exact .inl (DLe.refl _) | exact .inl (DLe.nil _ _) | (refine .inr ⟨rfl, _, ?_, rfl⟩; rfl) | exact rfl | exact .inl rfl | exact .inr ⟨rfl, rfl, rfl, rfl⟩ | exact Nat.zero_le _ | constructor)
  · have ek : IntKind.i64.wrap ((at_ : Int) + ((2 : Nat) : Int)) = ((at_ + 2 : Nat) : Int) := e 2 (by decide)
    have hk : l[at_ + 2]? = some x2 := hg 2
    conv => whnf
    rw [ek]
    refine ⟨rfl, ⟨by omega, by omega⟩, fun y hy => ?_⟩
    obtain rfl : x2 = y := Option.some.inj (hk.symm.trans hy)
    conv => whnf
    refine ⟨by decide, ?_⟩
    conv => whnf
    refine ⟨3, [], [], ?_, by decide, by decide⟩
    repeat' (first | exact trivial | exact .inl (DLe.refl _) | exact .inl (DLe.nil _ _) | (refine .inr ⟨rfl, _, ?_, rfl⟩; rfl) | exact rfl | exact .inl rfl | exact .inr ⟨rfl, rfl, rfl, rfl⟩ | exact Nat.zero_le _ | constructor)
  · have ek : IntKind.i64.wrap ((at_ : Int) + ((3 : Nat) : Int)) = ((at_ + 3 : Nat) : Int) := e 3 (by decide)
    have hk : l[at_ + 3]? = some x3 := hg 3
    conv => whnf
    rw [ek]
    refine ⟨rfl, ⟨by omega, by omega⟩, fun y hy => ?_⟩
    obtain rfl : x3 = y := Option.some.inj (hk.symm.trans hy)
    conv => whnf
    refine ⟨by decide, ?_⟩
    conv => whnf
    refine ⟨4, [], [], ?_, by decide, by decide⟩
    repeat' (first | exact trivial | exact .inl (DLe.refl _) | exact .inl (DLe.nil _ _) | (refine .inr ⟨rfl, _, ?_, rfl⟩; rfl) | exact rfl | exact .inl rfl | exact .inr ⟨rfl, rfl, rfl, rfl⟩ | exact Nat.zero_le _ | constructor)
  · have ek : IntKind.i64.wrap ((at_ : Int) + ((4 : Nat) : Int)) = ((at_ + 4 : Nat) : Int) := e 4 (by decide)
    have hk : l[at_ + 4]? = some x4 := hg 4
    conv => whnf
    rw [ek]
    refine ⟨rfl, ⟨by omega, by omega⟩, fun y hy => ?_⟩
    obtain rfl : x4 = y := Option.some.inj (hk.symm.trans hy)
    conv => whnf
    refine ⟨by decide, ?_⟩
    conv => whnf
    refine ⟨5, [], [], ?_, by decide, by decide⟩
    repeat' (first | exact trivial | exact .inl (DLe.refl _) | exact .inl (DLe.nil _ _) | (refine .inr ⟨rfl, _, ?_, rfl⟩; rfl) | exact rfl | exact .inl rfl | exact .inr ⟨rfl, rfl, rfl, rfl⟩ | exact Nat.zero_le _ | constructor)
  · have ek : IntKind.i64.wrap ((at_ : Int) + ((5 : Nat) : Int)) = ((at_ + 5 : Nat) : Int) := e 5 (by decide)
    have hk : l[at_ + 5]? = some x5 := hg 5
    conv => whnf
    rw [ek]
    refine ⟨rfl, ⟨by omega, by omega⟩, fun y hy => ?_⟩
    obtain rfl : x5 = y := Option.some.inj (hk.symm.trans hy)
    conv => whnf
    refine ⟨by decide, ?_⟩
    conv => whnf
    refine ⟨6, [], [], ?_, by decide, by decide⟩
    repeat' (first | exact trivial | exact .inl (DLe.refl _) | exact .inl (DLe.nil _ _) | (refine .inr ⟨rfl, _, ?_, rfl⟩; rfl) | exact rfl | exact .inl rfl | exact .inr ⟨rfl, rfl, rfl, rfl⟩ | exact Nat.zero_le _ | constructor)
  · conv => whnf
    rfl
set_option maxRecDepth 10000 in
set_option maxHeartbeats 1000000 in
theorem rParseE_fn (b : List Nat) (hb : Byt b) (hl : b.length ≤ 100000) : Fn Tryz.prog 18 [octR b] fun d => d = frmR (parseE b) := by
  refine FnX (fnOf [] Tryz.func18 rfl (by kernel_rfl) (Nat.le_of_ble_eq_true rfl) ?_)
  unfold parseE
  conv => whnf
  refine Fork.intro (fun q1 => ?_) (fun q1 => ?_)
  · rw [decide_eq_true (show b.length < 14 by have := of_decide_eq_true q1; omega)]
    conv => whnf
    exact frm0_le
  have q1 : ¬ b.length < 14 := by have := of_decide_eq_false q1; omega
  rw [decide_eq_false q1]
  dsimp only
  have hn := rGet2_fn b 12 hb (by omega) (by omega)
  have hc := rCut_fn b 14 (b.length - 14) (by omega) (by omega)
  have ht := get16_lt b 12
  have e14 : IntKind.i64.wrap ((b.length : Int) - 14) = ((b.length - 14 : Nat) : Int) := by rw [IntWalk.i64_in _ (by omega)]; omega
  obtain ⟨x0, x1, x2, x3, x4, x5, hx⟩ : ∃ x0 x1 x2 x3 x4 x5, b.take 6 = [x0, x1, x2, x3, x4, x5] := by
    obtain ⟨x0, x1, x2, x3, x4, x5, r, rfl⟩ := six_of (l := b) (by omega)
    exact ⟨_, _, _, _, _, _, rfl⟩
  obtain ⟨y0, y1, y2, y3, y4, y5, hy⟩ : ∃ x0 x1 x2 x3 x4 x5, (b.drop 6).take 6 = [x0, x1, x2, x3, x4, x5] := by
    obtain ⟨x0, x1, x2, x3, x4, x5, r, hr⟩ := six_of (l := b.drop 6) (by rw [List.length_drop]; omega)
    exact ⟨_, _, _, _, _, _, by rw [hr]; rfl⟩
  have hm1 := rMacAt_fn b 0 (by omega) (by omega)
  have hm2 := rMacAt_fn b 6 (by omega) (by omega)
  rw [List.drop_zero, hx] at hm1
  rw [hy] at hm2
  rw [hx, hy]
  generalize cutP b 14 (b.length - 14) = xd at *
  generalize get16 b 12 = t at *
  have et : IntKind.u16.wrap (t : Int) = (t : Int) := by rw [u16_wrap]; omega
  conv => whnf
  (refine CallVC.pure (hn) rfl ?_; rintro _ rfl; conv => whnf)
  refine Fork.intro (fun q2 => ?_) (fun q2 => ?_)
  · rw [decide_eq_true (show t < 1536 by have := of_decide_eq_true q2; omega)]
    conv => whnf
    exact frm0_le
  have q2 : ¬ t < 1536 := by have := of_decide_eq_false q2; omega
  rw [decide_eq_false q2]
  dsimp only
  conv => whnf
  rw [e14]
  (refine CallVC.pure (hc) rfl ?_; rintro _ rfl; conv => whnf)
  (refine CallVC.pure (hm1) rfl ?_; rintro _ rfl; conv => whnf)
  (refine CallVC.pure (hm2) rfl ?_; rintro _ rfl; conv => whnf)
  rw [et]
  exact DLe.refl _
end Go.Proofs.YtgodclgcfpmloaaGreatDoor.V
namespace Go.Proofs.YtgodclgcfpmloaaGreatDoor.V
open Go.RowKit
attribute [local irreducible] Fn FnN FnR OpVC DLe

structure Arp where
  op : Nat
  srcMac : List Nat
  srcIP : Nat
  dstMac : List Nat
  dstIP : Nat
def arp0 : Arp := ⟨0, [0, 0, 0, 0, 0, 0], 0, [0, 0, 0, 0, 0, 0], 0⟩
def arpD (x : Arp) : List D := u16D x.op :: (m6D x.srcMac ++ (u32D x.srcIP :: (m6D x.dstMac ++ [u32D x.dstIP])))
abbrev arpR (r : Arp × Int) : D := .tup [.agg (arpD r.1), intD r.2]
def firstA : List Nat := [0, 1, 8, 0, 6, 4]
def uniB (m : List Nat) : Bool := decide (m.getD 0 0 % 2 = 0) && !decide (m = [0, 0, 0, 0, 0, 0])
def arpOf (b : List Nat) : Arp := ⟨get16 b 6, (b.drop 8).take 6, get32 b 14, (b.drop 18).take 6, get32 b 24⟩
def goodA (b : List Nat) : Bool := decide (b.take 6 = firstA) && (decide (get16 b 6 = 1) || decide (get16 b 6 = 2)) && uniB ((b.drop 8).take 6)
def parseA (b : List Nat) : Arp × Int := match decide (b.length < 28) with
  | true => (arp0, 4)
  | false => match goodA b with
    | true => (arpOf b, 0)
    | false => (arp0, 3)
theorem arp0_le {e : Int} : DLe (.tup [.agg (arpD arp0), intD e]) (arpR (arp0, e)) := DLe.refl _
theorem six_at (b : List Nat) (k : Nat) (h : k + 6 ≤ b.length) : ∃ x0 x1 x2 x3 x4 x5, (b.drop k).take 6 = [x0, x1, x2, x3, x4, x5] := by
  obtain ⟨x0, x1, x2, x3, x4, x5, r, hr⟩ := six_of (l := b.drop k) (by rw [List.length_drop]; omega)
  exact ⟨_, _, _, _, _, _, by rw [hr]; rfl⟩
theorem arpMac_fn (l : List Nat) (at_ : Nat) (hl : l.length ≤ 100000) (h : at_ + 6 ≤ l.length) {x0 x1 x2 x3 x4 x5 : Nat} (hx : (l.drop at_).take 6 = [x0, x1, x2, x3, x4, x5]) : Fn Tryz.prog 84 [octR l, intD at_] fun d => d = .agg (m6D [x0, x1, x2, x3, x4, x5]) := by
  refine fnOf [] Tryz.func84 rfl (by kernel_rfl) (Nat.le_of_ble_eq_true rfl) ?_
  obtain ⟨y0, y1, y2, y3, y4, y5, r, hr⟩ := six_of (l := l.drop at_) (by rw [List.length_drop]; omega)
  have hh : [y0, y1, y2, y3, y4, y5] = [x0, x1, x2, x3, x4, x5] := by rw [hr] at hx; exact hx
  injection hh with h0 hh
  injection hh with h1 hh
  injection hh with h2 hh
  injection hh with h3 hh
  injection hh with h4 hh
  injection hh with h5 hh
  subst h0 h1 h2 h3 h4 h5
  have hd : (l.take ((l.length : Int)).toNat).drop ((at_ : Int)).toNat = y0 :: y1 :: y2 :: y3 :: y4 :: y5 :: r := by
    show (l.take l.length).drop at_ = _
    rw [List.take_length, hr]
  conv => whnf
  refine ⟨⟨rfl, rfl⟩, ?_⟩
  conv => whnf
  refine ⟨rfl, ⟨by omega, by omega, by omega⟩, ?_⟩
  rw [hd]
  conv => whnf
  refine op_copy (n := 6) (off := 0) (id := 1) (l := [u8D 0, u8D 0, u8D 0, u8D 0, u8D 0, u8D 0]) (enc := octE) (L := y0 :: y1 :: y2 :: y3 :: y4 :: y5 :: r) (l' := [u8D y0, u8D y1, u8D y2, u8D y3, u8D y4, u8D y5]) ttH rfl rfl rfl rfl rfl rfl rfl (fun _ => rfl) (by decide) (by simp) rfl ?_
  conv => whnf
  rfl
theorem octSame_fn (a b : List Nat) (ha : Byt a) (hb : Byt b) : Fn Tryz.prog 86 [octR a, octR b] fun d => d = boolD (decide (a = b)) := by
  have he : Fn Tryz.prog 107 [octR a, octR b] fun d => d = boolD (decide (a = b)) := by
    refine fnOf [] Tryz.func107 rfl (by kernel_rfl) (Nat.le_of_ble_eq_true rfl) ?_
    have cast : ∀ l : List Nat, l.map octE = (l.map fun x : Nat => (x : Int)).map fun n => [D.v (.int .u8 n)] := fun l => by rw [List.map_map]; rfl
    have str : ∀ l : List Nat, bytesOf (l.map fun x : Nat => (x : Int)) = strB l := fun l => by
      rw [bytesOf_str, List.map_map]
      congr 1
      exact (List.map_congr_left fun x _ => by simp).trans (List.map_id l)
    conv => whnf
    refine op_bytesStr (L := a.map fun x : Nat => (x : Int)) ttH rfl rfl rfl rfl ?_ rfl ?_
    · exact congrArg some (cast a)
    rw [str]
    conv => whnf
    refine op_bytesStr (L := b.map fun x : Nat => (x : Int)) ttH rfl rfl rfl rfl ?_ rfl ?_
    · exact congrArg some (cast b)
    rw [str]
    conv => whnf
    exact congrArg boolD (strB_beq ha hb)
  refine fnOf [] Tryz.func86 rfl (by kernel_rfl) (Nat.le_of_ble_eq_true rfl) ?_
  conv => whnf
  (refine CallVC.pure (he) rfl ?_; rintro _ rfl; conv => whnf)
theorem arpFirst_fn : Fn Tryz.prog 87 [] fun d => d = octR firstA := by
  refine FnX (fnOf [] Tryz.func87 rfl (by kernel_rfl) (Nat.le_of_ble_eq_true rfl) ?_)
  conv => whnf
  (refine ⟨Nat.le_of_ble_eq_true rfl, ?_⟩; conv => whnf)
  exact dleLit (L := firstA) octE_flat
theorem low_bit : ∀ n, n < 256 → decide (n &&& 1 = 1) = decide (n % 2 = 1) := by decide +kernel
set_option maxRecDepth 10000 in
theorem unicast_fn {x0 x1 x2 x3 x4 x5 : Nat} (h0 : x0 < 256) : Fn Tryz.prog 88 [.agg (m6D [x0, x1, x2, x3, x4, x5])] fun d => d = boolD (uniB [x0, x1, x2, x3, x4, x5]) := by
  have hg : Fn Tryz.prog 108 [.agg (m6D [x0, x1, x2, x3, x4, x5])] fun d => d = boolD (decide (x0 % 2 = 1)) := by
    refine fnOf [] Tryz.func108 rfl (by kernel_rfl) (Nat.le_of_ble_eq_true rfl) ?_
    have e : decide (IntKind.u8.wrap (((BitVec.ofInt IntKind.u8.bits (x0 : Int) &&& BitVec.ofInt IntKind.u8.bits 1).toNat : Nat) : Int) = 1) = decide (x0 % 2 = 1) := by
      rw [← low_bit x0 h0]
      exact hasF_eq x0 1 h0 (by decide)
    conv => whnf
    refine ⟨by decide, ?_⟩
    conv => whnf
    rw [e]
  refine fnOf [] Tryz.func88 rfl (by kernel_rfl) (Nat.le_of_ble_eq_true rfl) ?_
  have eqMac : eqOk Tryz.prog 40 [1, 1, 1, 1, 1, 1] = true := by kernel_rfl
  unfold uniB
  show wpc _ _ _ _ _ _
  have e0 : decide (x0 % 2 = 0) = !decide (x0 % 2 = 1) := by rw [← decide_not]; exact decide_eq_decide.2 (by omega)
  have e1 : (!eqD (m6D [x0, x1, x2, x3, x4, x5]) (m6D [0, 0, 0, 0, 0, 0])) = !decide ([x0, x1, x2, x3, x4, x5] = [0, 0, 0, 0, 0, 0]) := by
    congr 1
    rw [Bool.eq_iff_iff]
    simp only [m6D, List.map_cons, List.map_nil, eqD, Bool.and_eq_true, Bool.and_true, decide_eq_true_eq, List.cons.injEq, and_true]
    omega
  rw [show [x0, x1, x2, x3, x4, x5].getD 0 0 = x0 from rfl, e0]
  generalize decide (x0 % 2 = 1) = g at *
  conv => whnf
  (refine CallVC.pure (hg) rfl ?_; rintro _ rfl; conv => whnf)
  cases g with
  | true =>
    conv => whnf
    try rfl
  | false =>
    conv => whnf
    refine ⟨eqMac, rfl, ?_⟩
    conv => whnf
    exact congrArg boolD e1

set_option maxRecDepth 10000 in
set_option maxHeartbeats 4000000 in
theorem arpParse_fn (b : List Nat) (hb : Byt b) (hl : b.length ≤ 100000) : Fn Tryz.prog 56 [octR b] fun d => d = arpR (parseA b) := by
  refine FnX (fnOf [] Tryz.func56 rfl (by kernel_rfl) (Nat.le_of_ble_eq_true rfl) ?_)
  unfold parseA
  conv => whnf
  refine Fork.intro (fun q1 => ?_) (fun q1 => ?_)
  · rw [decide_eq_true (show b.length < 28 by have := of_decide_eq_true q1; omega)]
    conv => whnf
    exact arp0_le
  have q1 : ¬ b.length < 28 := by have := of_decide_eq_false q1; omega
  rw [decide_eq_false q1]
  dsimp only
  obtain ⟨x0, x1, x2, x3, x4, x5, hx⟩ := six_at b 8 (by omega)
  obtain ⟨y0, y1, y2, y3, y4, y5, hy⟩ := six_at b 18 (by omega)
  have hm1 := arpMac_fn b 8 (by omega) (by omega) hx
  have hm2 := arpMac_fn b 18 (by omega) (by omega) hy
  have h6 := octGet16_fn b 6 hb (by omega) (by decide)
  have h14 := octGet32_fn b 14 hb (by omega) (by decide)
  have h24 := octGet32_fn b 24 hb (by omega) (by decide)
  have hf := arpFirst_fn
  have hs := octSame_fn (b.take 6) firstA (hb.take 6) (by intro c hc; revert c; decide)
  have hx0 : x0 < 256 := by
    have : x0 ∈ (b.drop 8).take 6 := by rw [hx]; exact List.mem_cons_self
    exact hb x0 (List.mem_of_mem_drop (List.mem_of_mem_take this))
  have hu := unicast_fn (x0 := x0) (x1 := x1) (x2 := x2) (x3 := x3) (x4 := x4) (x5 := x5) hx0
  have hop := get16_lt b 6
  unfold goodA arpOf
  rw [hx, hy]
  generalize uniB [x0, x1, x2, x3, x4, x5] = uu at *
  generalize decide (b.take 6 = firstA) = ff at *
  generalize get16 b 6 = op at *
  generalize get32 b 14 = a14 at *
  generalize get32 b 24 = a24 at *
  conv => whnf
  (refine CallVC.pure (hm1) rfl ?_; rintro _ rfl; conv => whnf)
  (refine CallVC.pure (hm2) rfl ?_; rintro _ rfl; conv => whnf)
  (refine CallVC.pure (h6) rfl ?_; rintro _ rfl; conv => whnf)
  (refine CallVC.pure (h14) rfl ?_; rintro _ rfl; conv => whnf)
  (refine CallVC.pure (h24) rfl ?_; rintro _ rfl; conv => whnf)
  refine ⟨rfl, ⟨by omega, by omega, by omega⟩, ?_⟩
  conv => whnf
  (refine CallVC.pure (hf) rfl ?_; rintro _ rfl; conv => whnf)
  (refine CallVC.pure (hs) rfl ?_; rintro _ rfl; conv => whnf)
  cases ff with
  | false =>
    conv => whnf
    exact arp0_le
  | true =>
    conv => whnf
    refine Fork.intro (fun q2 => ?_) (fun q2 => ?_)
    · have q2 : ¬ op = 1 := by have := ndT q2; omega
      rw [decide_eq_false q2]
      conv => whnf
      refine Fork.intro (fun q3 => ?_) (fun q3 => ?_)
      · rw [decide_eq_false (show ¬ op = 2 by have := ndT q3; omega)]
        conv => whnf
        exact arp0_le
      · rw [decide_eq_true (show op = 2 by have := ndF q3; omega)]
        conv => whnf
        (refine CallVC.pure (hu) rfl ?_; rintro _ rfl; conv => whnf)
        cases uu with
        | false =>
          conv => whnf
          exact arp0_le
        | true =>
          conv => whnf
          exact DLe.refl _
    · have q2 : op = 1 := by have := ndF q2; omega
      rw [decide_eq_true q2]
      conv => whnf
      (refine CallVC.pure (hu) rfl ?_; rintro _ rfl; conv => whnf)
      cases uu with
      | false =>
        conv => whnf
        exact arp0_le
      | true =>
        conv => whnf
        exact DLe.refl _
end Go.Proofs.YtgodclgcfpmloaaGreatDoor.V
namespace Go.Proofs.YtgodclgcfpmloaaGreatDoor.V
open Go.RowKit
attribute [local irreducible] Fn FnN FnR OpVC DLe

theorem rSame_fn (a b : List Nat) (ha : a.length ≤ 1000000) : Fn Tryz.prog 32 [octR a, octR b] fun d => d = boolD (decide (a = b)) := by
  refine fnOf [] Tryz.func32 rfl (by kernel_rfl) (Nat.le_of_ble_eq_true rfl) ?_
  conv => whnf
  refine Fork.intro (fun q => ?_) (fun q => ?_)
  · rw [decide_eq_false (show ¬ a = b by rintro rfl; exact ndT q rfl)]
    conv => whnf
    try rfl
  have q : a.length = b.length := by have := ndF q; omega
  conv => whnf
  refine ⟨Nat, fun k => ⟨[(5, intD k), (1, octR b), (0, octR a)], [], 0, ([], 0)⟩, fun k => k ≤ a.length ∧ a.take k = b.take k, fun k => a.length - k, ⟨0, [], [], ?_, Nat.zero_le _, rfl⟩, ?_⟩
  · repeat' (first | exact trivial | exact .inl (DLe.refl _) | exact .inl (DLe.nil _ _) | (refine .inr ⟨rfl, _, ?_, rfl⟩; rfl) | exact rfl | exact .inl rfl | exact .inr ⟨rfl, rfl, rfl, rfl⟩ | exact Nat.zero_le _ | constructor)
  rintro k ⟨hk, he⟩
  have e0 := wrapN (n := k) (by omega)
  conv => whnf
  refine Fork.intro (fun q1 => ?_) (fun q1 => ?_)
  · have q1 : k < a.length := by have := of_decide_eq_true q1; omega
    obtain ⟨x, hx⟩ : ∃ x, a[k]? = some x := ⟨_, List.getElem?_eq_getElem q1⟩
    obtain ⟨y, hy⟩ : ∃ y, b[k]? = some y := ⟨_, List.getElem?_eq_getElem (by omega)⟩
    conv => whnf
    refine ⟨rfl, ⟨by omega, by omega⟩, fun x' hx' => ?_⟩
    obtain rfl : x = x' := Option.some.inj (hx.symm.trans hx')
    conv => whnf
    refine ⟨rfl, ⟨by omega, by omega⟩, fun y' hy' => ?_⟩
    obtain rfl : y = y' := Option.some.inj (hy.symm.trans hy')
    conv => whnf
    refine Fork.intro (fun q2 => ?_) (fun q2 => ?_)
    · rw [decide_eq_false (show ¬ a = b by rintro rfl; rw [hx] at hy; injection hy with hy; exact ndT q2 (by omega))]
      conv => whnf
      try rfl
    · have q2 : x = y := by have := ndF q2; omega
      subst q2
      conv => whnf
      rw [e0]
      refine ⟨k + 1, [], [], ?_, ⟨by show k + 1 ≤ a.length; omega, by rw [List.take_add_one, List.take_add_one, hx, hy, he]⟩, by show a.length - (k + 1) < a.length - k; omega⟩
      repeat' (first | exact trivial | exact .inl (DLe.refl _) | exact .inl (DLe.nil _ _) | (refine .inr ⟨rfl, _, ?_, rfl⟩; rfl) | exact rfl | exact .inl rfl | exact .inr ⟨rfl, rfl, rfl, rfl⟩ | exact Nat.zero_le _ | constructor)
  · have q1 : k = a.length := by have := of_decide_eq_false q1; omega
    rw [decide_eq_true (show a = b by
      rw [← List.take_length (l := a), ← q1, he, q1, q, List.take_length])]
    conv => whnf
    try rfl
theorem rMac_fn (x0 x1 x2 x3 x4 x5 : Nat) : Fn Tryz.prog 62 [.agg (m6D [x0, x1, x2, x3, x4, x5])] fun d => d = octR [x0, x1, x2, x3, x4, x5] := by
  refine fnOf [] Tryz.func62 rfl (by kernel_rfl) (Nat.le_of_ble_eq_true rfl) ?_
  conv => whnf
  refine ⟨Nat, fun k => ⟨[(4, intD k), (3, .grow 1), (1, .loc 0 0)], [(1, .grow Nat 5 1 octE ([x0, x1, x2, x3, x4, x5].take k)), (0, .cells 40 (m6D [x0, x1, x2, x3, x4, x5]))], 2, ([], 0)⟩, fun k => k ≤ 6, fun k => 6 - k, ⟨0, [], [], ?_, Nat.zero_le _⟩, ?_⟩
  · repeat' (first | exact trivial | exact .inl (DLe.refl _) | exact .inl (DLe.nil _ _) | (refine .inr ⟨rfl, _, ?_, rfl⟩; rfl) | exact rfl | exact .inl rfl | exact .inr ⟨rfl, rfl, rfl, rfl⟩ | exact Nat.zero_le _ | constructor)
  intro k hk
  rcases (by have : k ≤ 6 := hk; omega : k = 0 ∨ k = 1 ∨ k = 2 ∨ k = 3 ∨ k = 4 ∨ k = 5 ∨ k = 6) with rfl | rfl | rfl | rfl | rfl | rfl | rfl
  · conv => whnf
    refine ⟨by decide, ?_⟩
    conv => whnf
    (refine ⟨Nat.le_of_ble_eq_true rfl, ?_⟩; conv => whnf)
    refine ⟨Nat, octE, [x0], rfl, fun _ => rfl, Nat.le_of_ble_eq_true rfl, Nat.le_of_ble_eq_true rfl, rfl, ?_⟩
    conv => whnf
    refine ⟨1, [(1, 2)], [], ?_, by decide, by decide⟩
    repeat' (first | exact trivial | exact .inl (DLe.refl _) | exact .inl (DLe.nil _ _) | (refine .inr ⟨rfl, _, ?_, rfl⟩; rfl) | exact rfl | exact .inl rfl | exact .inr ⟨rfl, rfl, rfl, rfl⟩ | exact Nat.zero_le _ | constructor)
  · conv => whnf
    refine ⟨by decide, ?_⟩
    conv => whnf
    (refine ⟨Nat.le_of_ble_eq_true rfl, ?_⟩; conv => whnf)
    refine ⟨Nat, octE, [x0, x1], rfl, fun _ => rfl, Nat.le_of_ble_eq_true rfl, Nat.le_of_ble_eq_true rfl, rfl, ?_⟩
    conv => whnf
    refine ⟨2, [(1, 2)], [], ?_, by decide, by decide⟩
    repeat' (first | exact trivial | exact .inl (DLe.refl _) | exact .inl (DLe.nil _ _) | (refine .inr ⟨rfl, _, ?_, rfl⟩; rfl) | exact rfl | exact .inl rfl | exact .inr ⟨rfl, rfl, rfl, rfl⟩ | exact Nat.zero_le _ | constructor)
  · conv => whnf
    refine ⟨by decide, ?_⟩
    conv => whnf
    (refine ⟨Nat.le_of_ble_eq_true rfl, ?_⟩; conv => whnf)
    refine ⟨Nat, octE, [x0, x1, x2], rfl, fun _ => rfl, Nat.le_of_ble_eq_true rfl, Nat.le_of_ble_eq_true rfl, rfl, ?_⟩
    conv => whnf
    refine ⟨3, [(1, 2)], [], ?_, by decide, by decide⟩
    repeat' (first | exact trivial | exact .inl (DLe.refl _) | exact .inl (DLe.nil _ _) | (refine .inr ⟨rfl, _, ?_, rfl⟩; rfl) | exact rfl | exact .inl rfl | exact .inr ⟨rfl, rfl, rfl, rfl⟩ | exact Nat.zero_le _ | constructor)
  · conv => whnf
    refine ⟨by decide, ?_⟩
    conv => whnf
    (refine ⟨Nat.le_of_ble_eq_true rfl, ?_⟩; conv => whnf)
    refine ⟨Nat, octE, [x0, x1, x2, x3], rfl, fun _ => rfl, Nat.le_of_ble_eq_true rfl, Nat.le_of_ble_eq_true rfl, rfl, ?_⟩
    conv => whnf
    refine ⟨4, [(1, 2)], [], ?_, by decide, by decide⟩
    repeat' (first | exact trivial | exact .inl (DLe.refl _) | exact .inl (DLe.nil _ _) | (refine .inr ⟨rfl, _, ?_, rfl⟩; rfl) | exact rfl | exact .inl rfl | exact .inr ⟨rfl, rfl, rfl, rfl⟩ | exact Nat.zero_le _ | constructor)
  · conv => whnf
    refine ⟨by decide, ?_⟩
    conv => whnf
    (refine ⟨Nat.le_of_ble_eq_true rfl, ?_⟩; conv => whnf)
    refine ⟨Nat, octE, [x0, x1, x2, x3, x4], rfl, fun _ => rfl, Nat.le_of_ble_eq_true rfl, Nat.le_of_ble_eq_true rfl, rfl, ?_⟩
    conv => whnf
    refine ⟨5, [(1, 2)], [], ?_, by decide, by decide⟩
    repeat' (first | exact trivial | exact .inl (DLe.refl _) | exact .inl (DLe.nil _ _) | (refine .inr ⟨rfl, _, ?_, rfl⟩; rfl) | exact rfl | exact .inl rfl | exact .inr ⟨rfl, rfl, rfl, rfl⟩ | exact Nat.zero_le _ | constructor)
  · conv => whnf
    refine ⟨by decide, ?_⟩
    conv => whnf
    (refine ⟨Nat.le_of_ble_eq_true rfl, ?_⟩; conv => whnf)
    refine ⟨Nat, octE, [x0, x1, x2, x3, x4, x5], rfl, fun _ => rfl, Nat.le_of_ble_eq_true rfl, Nat.le_of_ble_eq_true rfl, rfl, ?_⟩
    conv => whnf
    refine ⟨6, [(1, 2)], [], ?_, by decide, by decide⟩
    repeat' (first | exact trivial | exact .inl (DLe.refl _) | exact .inl (DLe.nil _ _) | (refine .inr ⟨rfl, _, ?_, rfl⟩; rfl) | exact rfl | exact .inl rfl | exact .inr ⟨rfl, rfl, rfl, rfl⟩ | exact Nat.zero_le _ | constructor)
  · conv => whnf
    rfl
def putA (p : Arp) : List Nat := (firstA ++ b2 p.op) ++ (p.srcMac ++ b4 p.srcIP) ++ (p.dstMac ++ b4 p.dstIP)
theorem b2_get {b : List Nat} (hb : Byt b) (i : Nat) (h : i + 2 ≤ b.length) : b2 (get16 b i) = (b.drop i).take 2 := by
  have hl : ((b.drop i).take 2).length = 2 := by rw [List.length_take, List.length_drop]; omega
  unfold get16 getW
  rw [decide_eq_true h]
  dsimp only
  match (b.drop i).take 2, hl, (fun c hc => hb c (List.mem_of_mem_drop (List.mem_of_mem_take hc)) : Byt ((b.drop i).take 2)) with
  | [x, y], _, hh =>
    have h1 := hh x (by simp)
    have h2 := hh y (by simp)
    show b2 ((((0 * 256 + x) % 4294967296) * 256 + y) % 4294967296 % 65536) = _
    simp only [b2, List.cons.injEq, and_true]
    omega
theorem b4_get {b : List Nat} (hb : Byt b) (i : Nat) (h : i + 4 ≤ b.length) : b4 (get32 b i) = (b.drop i).take 4 := by
  have hl : ((b.drop i).take 4).length = 4 := by rw [List.length_take, List.length_drop]; omega
  unfold get32 getW
  rw [decide_eq_true h]
  dsimp only
  match (b.drop i).take 4, hl, (fun c hc => hb c (List.mem_of_mem_drop (List.mem_of_mem_take hc)) : Byt ((b.drop i).take 4)) with
  | [x, y, z, u], _, hh =>
    have h1 := hh x (by simp)
    have h2 := hh y (by simp)
    have h3 := hh z (by simp)
    have h4 := hh u (by simp)
    show b4 ((((((0 * 256 + x) % 4294967296) * 256 + y) % 4294967296 * 256 + z) % 4294967296 * 256 + u) % 4294967296) = _
    simp only [b4, List.cons.injEq, and_true]
    omega
theorem putA_of {b : List Nat} (hb : Byt b) (h : 28 ≤ b.length) : putA (arpOf b) = b.take 28 ↔ b.take 6 = firstA := by
  have h6 := b2_get hb 6 (by omega)
  have h14 := b4_get hb 14 (by omega)
  have h24 := b4_get hb 24 (by omega)
  have hs : b.take 28 = b.take 6 ++ ((b.drop 6).take 2 ++ ((b.drop 8).take 6 ++ ((b.drop 14).take 4 ++ ((b.drop 18).take 6 ++ (b.drop 24).take 4)))) := by
    have t : ∀ (a c d : Nat), d = a + c → ∀ e, (b.drop a).take (c + e) = (b.drop a).take c ++ (b.drop d).take e := fun a c d hd e => by rw [List.take_add, List.drop_drop, hd]
    rw [← t 18 6 24 rfl 4, ← t 14 4 18 rfl 10, ← t 8 6 14 rfl 14, ← t 6 2 8 rfl 20]
    exact t 0 6 6 rfl 22
  unfold putA arpOf
  dsimp only
  rw [hs, h6, h14, h24]
  simp only [List.append_assoc]
  constructor
  · intro he
    have := congrArg (List.take 6) he
    rw [List.take_left' (by rfl), List.take_left' (by rw [List.length_take]; omega)] at this
    exact this.symm
  · intro he
    rw [he]
set_option maxHeartbeats 2000000 in
theorem rPutA_fn (op sip dip x0 x1 x2 x3 x4 x5 y0 y1 y2 y3 y4 y5 : Nat) (h0 : op < 65536) (h1 : sip < 4294967296) (h2 : dip < 4294967296) : Fn Tryz.prog 33 [.agg (arpD ⟨op, [x0, x1, x2, x3, x4, x5], sip, [y0, y1, y2, y3, y4, y5], dip⟩)] fun d => d = octR (putA ⟨op, [x0, x1, x2, x3, x4, x5], sip, [y0, y1, y2, y3, y4, y5], dip⟩) := by
  refine fnOf [(2, [0, 1, 2, 4, 5, 3, 6, 7, 8, 9]), (3, [0, 1, 2, 4, 5, 3, 6, 7, 8, 9])] Tryz.func33 rfl (by kernel_rfl) (Nat.le_of_ble_eq_true rfl) ?_
  have p1 := rPut_fn sip 4 h1 (by decide)
  have p2 := rPut_fn dip 4 h2 (by decide)
  rw [bigL_four] at p1 p2
  have m1 := rMac_fn x0 x1 x2 x3 x4 x5
  have m2 := rMac_fn y0 y1 y2 y3 y4 y5
  have a1 := rAdd_fn [x0, x1, x2, x3, x4, x5] (b4 sip) (Nat.le_of_ble_eq_true rfl) (by simp [b4])
  have a2 := rAdd_fn [y0, y1, y2, y3, y4, y5] (b4 dip) (Nat.le_of_ble_eq_true rfl) (by simp [b4])
  have a3 := rAdd_fn (firstA ++ b2 op) ([x0, x1, x2, x3, x4, x5] ++ b4 sip) (by simp [firstA, b2]) (by simp [b4])
  have a4 := rAdd_fn ((firstA ++ b2 op) ++ ([x0, x1, x2, x3, x4, x5] ++ b4 sip)) ([y0, y1, y2, y3, y4, y5] ++ b4 dip) (by simp [firstA, b2, b4]) (by simp [b4])
  have a3' : Fn Tryz.prog 61 [.lit 1 ((firstA ++ b2 op).map octE), octR ([x0, x1, x2, x3, x4, x5] ++ b4 sip)] fun d => d = octR ((firstA ++ b2 op) ++ ([x0, x1, x2, x3, x4, x5] ++ b4 sip)) :=
    FnLe a3 fun C vs hr => reps_one (l := []) (r := [octR ([x0, x1, x2, x3, x4, x5] ++ b4 sip)]) (dleLit octE_flat) hr
  have c1 : IntKind.u8.wrap (IntKind.u16.wrap ((op : Int).tdiv 256)) = ((op / 256 % 256 : Nat) : Int) := by
    rw [Int.tdiv_eq_ediv_of_nonneg (by omega), u16_wrap, u8_small (by omega)]; omega
  have c2 : IntKind.u8.wrap ((op : Int).tmod 256) = ((op % 256 : Nat) : Int) := by
    rw [Int.tmod_eq_emod_of_nonneg (by omega), u8_small (by omega)]; omega
  conv => whnf
  refine ⟨by decide, ?_⟩
  conv => whnf
  refine ⟨by decide, ?_⟩
  conv => whnf
  simp only [c1, c2]
  (refine ⟨Nat.le_of_ble_eq_true rfl, ?_⟩; conv => whnf)
  (refine CallVC.pure (m1) rfl ?_; rintro _ rfl; conv => whnf)
  (refine CallVC.pure (p1) rfl ?_; rintro _ rfl; conv => whnf)
  (refine CallVC.pure (a1) rfl ?_; rintro _ rfl; conv => whnf)
  (refine CallVC.pure (a3') rfl ?_; rintro _ rfl; conv => whnf)
  (refine CallVC.pure (m2) rfl ?_; rintro _ rfl; conv => whnf)
  (refine CallVC.pure (p2) rfl ?_; rintro _ rfl; conv => whnf)
  (refine CallVC.pure (a2) rfl ?_; rintro _ rfl; conv => whnf)
  (refine CallVC.pure (a4) rfl ?_; rintro _ rfl; conv => whnf)
  rfl
def sum6 (x0 x1 x2 x3 x4 x5 : Nat) : Nat → Nat
  | 0 => 0
  | 1 => x0
  | 2 => x0 + x1
  | 3 => x0 + x1 + x2
  | 4 => x0 + x1 + x2 + x3
  | 5 => x0 + x1 + x2 + x3 + x4
  | _ => x0 + x1 + x2 + x3 + x4 + x5
set_option maxRecDepth 10000 in
set_option maxHeartbeats 4000000 in
theorem rParseA_fn (b : List Nat) (hb : Byt b) (hl : b.length ≤ 100000) : Fn Tryz.prog 19 [octR b] fun d => d = arpR (parseA b) := by
  refine FnX (fnOf [(13, [0, 2, 3, 1, 4, 5, 6, 7, 8, 9, 10, 11, 12, 13, 14, 15, 16, 17, 18, 19, 20, 21, 22, 23, 24])] Tryz.func19 rfl (by kernel_rfl) (Nat.le_of_ble_eq_true rfl) ?_)
  unfold parseA
  conv => whnf
  refine Fork.intro (fun q1 => ?_) (fun q1 => ?_)
  · rw [decide_eq_true (show b.length < 28 by have := of_decide_eq_true q1; omega)]
    conv => whnf
    exact arp0_le
  have q1 : ¬ b.length < 28 := by have := of_decide_eq_false q1; omega
  rw [decide_eq_false q1]
  dsimp only
  have hput := putA_of hb (by omega)
  have hm1 := rMacAt_fn b 8 (by omega) (by omega)
  have hm2 := rMacAt_fn b 18 (by omega) (by omega)
  obtain ⟨x0, x1, x2, x3, x4, x5, hx⟩ := six_at b 8 (by omega)
  obtain ⟨y0, y1, y2, y3, y4, y5, hy⟩ := six_at b 18 (by omega)
  have hbx : Byt [x0, x1, x2, x3, x4, x5] := by rw [← hx]; exact (hb.drop 8).take 6
  rw [hx] at hm1
  rw [hy] at hm2
  have h6 := rGet2_fn b 6 hb (by omega) (by omega)
  have h14 := rGet4_fn b 14 hb (by omega) (by omega)
  have h24 := rGet4_fn b 24 hb (by omega) (by omega)
  have hop := get16_lt b 6
  have l14 := get32_lt b 14
  have l24 := get32_lt b 24
  have hp := rPutA_fn (get16 b 6) (get32 b 14) (get32 b 24) x0 x1 x2 x3 x4 x5 y0 y1 y2 y3 y4 y5 hop l14 l24
  unfold arpOf at hput
  unfold goodA arpOf
  rw [hx, hy] at hput ⊢
  obtain ⟨PA, hPA⟩ : ∃ PA, PA = putA ⟨get16 b 6, [x0, x1, x2, x3, x4, x5], get32 b 14, [y0, y1, y2, y3, y4, y5], get32 b 24⟩ := ⟨_, rfl⟩
  have hPl : PA.length ≤ 1000000 := by rw [hPA]; simp [putA, firstA, b2, b4]
  rw [← hPA] at hp hput
  have hs : Fn Tryz.prog 32 [octR PA, octR (b.take 28)] fun d => d = boolD (decide (b.take 6 = firstA)) := by
    have h := rSame_fn PA (b.take 28) hPl
    rwa [show decide (PA = b.take 28) = decide (b.take 6 = firstA) from decide_eq_decide.2 hput] at h
  clear hput hPA
  have hu : uniB [x0, x1, x2, x3, x4, x5] = (decide (x0 % 2 = 0) && !decide (x0 + x1 + x2 + x3 + x4 + x5 = 0)) := by
    unfold uniB
    rw [show [x0, x1, x2, x3, x4, x5].getD 0 0 = x0 from rfl]
    congr 2
    refine decide_eq_decide.2 ?_
    simp only [List.cons.injEq, and_true]
    omega
  rw [hu]
  have g0 := hbx x0 (by simp)
  have g1 := hbx x1 (by simp)
  have g2 := hbx x2 (by simp)
  have g3 := hbx x3 (by simp)
  have g4 := hbx x4 (by simp)
  have g5 := hbx x5 (by simp)
  generalize decide (b.take 6 = firstA) = ff at *
  generalize get16 b 6 = op at *
  generalize get32 b 14 = a14 at *
  generalize get32 b 24 = a24 at *
  have eop : IntKind.u16.wrap (op : Int) = (op : Int) := by rw [u16_wrap]; omega
  have em : ((x0 : Nat) : Int).tmod 2 = ((x0 % 2 : Nat) : Int) := by rw [Int.tmod_eq_emod_of_nonneg (by omega)]; omega
  conv => whnf
  (refine CallVC.pure (hm1) rfl ?_; rintro _ rfl; conv => whnf)
  (refine CallVC.pure (hm2) rfl ?_; rintro _ rfl; conv => whnf)
  (refine CallVC.pure (h6) rfl ?_; rintro _ rfl; conv => whnf)
  rw [eop]
  conv => whnf
  (refine CallVC.pure (h14) rfl ?_; rintro _ rfl; conv => whnf)
  (refine CallVC.pure (h24) rfl ?_; rintro _ rfl; conv => whnf)
  refine ⟨Nat, fun k => ⟨[(8, intD k), (7, intD (sum6 x0 x1 x2 x3 x4 x5 k)), (5, u32D op), (4, .loc 1 0), (2, .loc 0 0), (0, octR b)], [(0, .cells 47 (arpD arp0)), (1, .cells 47 (arpD ⟨op, [x0, x1, x2, x3, x4, x5], a14, [y0, y1, y2, y3, y4, y5], a24⟩))], 2, ([], 0)⟩, fun k => k ≤ 6, fun k => 6 - k, ⟨0, [], [], ?_, Nat.zero_le _⟩, ?_⟩
  · repeat' (first | exact trivial | exact .inl (DLe.refl _) | exact .inl (DLe.nil _ _) | (refine .inr ⟨rfl, _, ?_, rfl⟩; rfl) | exact rfl | exact .inl rfl | exact .inr ⟨rfl, rfl, rfl, rfl⟩ | exact Nat.zero_le _ | constructor)
  intro k hk
  rcases (by have : k ≤ 6 := hk; omega : k = 0 ∨ k = 1 ∨ k = 2 ∨ k = 3 ∨ k = 4 ∨ k = 5 ∨ k = 6) with rfl | rfl | rfl | rfl | rfl | rfl | rfl
  · have es : IntKind.i64.wrap ((sum6 x0 x1 x2 x3 x4 x5 0 : Nat) + IntKind.i64.wrap (x0 : Int)) = ((sum6 x0 x1 x2 x3 x4 x5 1 : Nat) : Int) := by
      rw [IntWalk.i64_in (x0 : Int) (by omega)]
      show IntKind.i64.wrap (((0 : Nat) : Int) + (x0 : Int)) = ((x0 : Nat) : Int)
      rw [IntWalk.i64_in _ (by omega)]; omega
    conv => whnf
    refine ⟨by decide, ?_⟩
    conv => whnf
    simp only [es]
    refine ⟨1, [], [], ?_, by decide, by decide⟩
    repeat' (first | exact trivial | exact .inl (DLe.refl _) | exact .inl (DLe.nil _ _) | (refine .inr ⟨rfl, _, ?_, rfl⟩; rfl) | exact rfl | exact .inl rfl | exact .inr ⟨rfl, rfl, rfl, rfl⟩ | exact Nat.zero_le _ | constructor)
  · have es : IntKind.i64.wrap ((sum6 x0 x1 x2 x3 x4 x5 1 : Nat) + IntKind.i64.wrap (x1 : Int)) = ((sum6 x0 x1 x2 x3 x4 x5 2 : Nat) : Int) := by
      rw [IntWalk.i64_in (x1 : Int) (by omega)]
      show IntKind.i64.wrap (((x0 : Nat) : Int) + (x1 : Int)) = ((x0 + x1 : Nat) : Int)
      rw [IntWalk.i64_in _ (by omega)]; omega
    conv => whnf
    refine ⟨by decide, ?_⟩
    conv => whnf
    simp only [es]
    refine ⟨2, [], [], ?_, by decide, by decide⟩
    repeat' (first | exact trivial | exact .inl (DLe.refl _) | exact .inl (DLe.nil _ _) | (refine .inr ⟨rfl, _, ?_, rfl⟩; rfl) | exact rfl | exact .inl rfl | exact .inr ⟨rfl, rfl, rfl, rfl⟩ | exact Nat.zero_le _ | constructor)
  · have es : IntKind.i64.wrap ((sum6 x0 x1 x2 x3 x4 x5 2 : Nat) + IntKind.i64.wrap (x2 : Int)) = ((sum6 x0 x1 x2 x3 x4 x5 3 : Nat) : Int) := by
      rw [IntWalk.i64_in (x2 : Int) (by omega)]
      show IntKind.i64.wrap (((x0 + x1 : Nat) : Int) + (x2 : Int)) = ((x0 + x1 + x2 : Nat) : Int)
      rw [IntWalk.i64_in _ (by omega)]; omega
    conv => whnf
    refine ⟨by decide, ?_⟩
    conv => whnf
    simp only [es]
    refine ⟨3, [], [], ?_, by decide, by decide⟩
    repeat' (first | exact trivial | exact .inl (DLe.refl _) | exact .inl (DLe.nil _ _) | (refine .inr ⟨rfl, _, ?_, rfl⟩; rfl) | exact rfl | exact .inl rfl | exact .inr ⟨rfl, rfl, rfl, rfl⟩ | exact Nat.zero_le _ | constructor)
  · have es : IntKind.i64.wrap ((sum6 x0 x1 x2 x3 x4 x5 3 : Nat) + IntKind.i64.wrap (x3 : Int)) = ((sum6 x0 x1 x2 x3 x4 x5 4 : Nat) : Int) := by
      rw [IntWalk.i64_in (x3 : Int) (by omega)]
      show IntKind.i64.wrap (((x0 + x1 + x2 : Nat) : Int) + (x3 : Int)) = ((x0 + x1 + x2 + x3 : Nat) : Int)
      rw [IntWalk.i64_in _ (by omega)]; omega
    conv => whnf
    refine ⟨by decide, ?_⟩
    conv => whnf
    simp only [es]
    refine ⟨4, [], [], ?_, by decide, by decide⟩
    repeat' (first | exact trivial | exact .inl (DLe.refl _) | exact .inl (DLe.nil _ _) | (refine .inr ⟨rfl, _, ?_, rfl⟩; rfl) | exact rfl | exact .inl rfl | exact .inr ⟨rfl, rfl, rfl, rfl⟩ | exact Nat.zero_le _ | constructor)
  · have es : IntKind.i64.wrap ((sum6 x0 x1 x2 x3 x4 x5 4 : Nat) + IntKind.i64.wrap (x4 : Int)) = ((sum6 x0 x1 x2 x3 x4 x5 5 : Nat) : Int) := by
      rw [IntWalk.i64_in (x4 : Int) (by omega)]
      show IntKind.i64.wrap (((x0 + x1 + x2 + x3 : Nat) : Int) + (x4 : Int)) = ((x0 + x1 + x2 + x3 + x4 : Nat) : Int)
      rw [IntWalk.i64_in _ (by omega)]; omega
    conv => whnf
    refine ⟨by decide, ?_⟩
    conv => whnf
    simp only [es]
    refine ⟨5, [], [], ?_, by decide, by decide⟩
    repeat' (first | exact trivial | exact .inl (DLe.refl _) | exact .inl (DLe.nil _ _) | (refine .inr ⟨rfl, _, ?_, rfl⟩; rfl) | exact rfl | exact .inl rfl | exact .inr ⟨rfl, rfl, rfl, rfl⟩ | exact Nat.zero_le _ | constructor)
  · have es : IntKind.i64.wrap ((sum6 x0 x1 x2 x3 x4 x5 5 : Nat) + IntKind.i64.wrap (x5 : Int)) = ((sum6 x0 x1 x2 x3 x4 x5 6 : Nat) : Int) := by
      rw [IntWalk.i64_in (x5 : Int) (by omega)]
      show IntKind.i64.wrap (((x0 + x1 + x2 + x3 + x4 : Nat) : Int) + (x5 : Int)) = ((x0 + x1 + x2 + x3 + x4 + x5 : Nat) : Int)
      rw [IntWalk.i64_in _ (by omega)]; omega
    conv => whnf
    refine ⟨by decide, ?_⟩
    conv => whnf
    simp only [es]
    refine ⟨6, [], [], ?_, by decide, by decide⟩
    repeat' (first | exact trivial | exact .inl (DLe.refl _) | exact .inl (DLe.nil _ _) | (refine .inr ⟨rfl, _, ?_, rfl⟩; rfl) | exact rfl | exact .inl rfl | exact .inr ⟨rfl, rfl, rfl, rfl⟩ | exact Nat.zero_le _ | constructor)
  · have em2 : decide ((x0 : Int).tmod 2 = 1) = !decide (x0 % 2 = 0) := by rw [em, ← decide_not]; exact decide_eq_decide.2 (by omega)
    conv => whnf
    refine ⟨rfl, ⟨by omega, by omega, by omega⟩, ?_⟩
    conv => whnf
    (refine CallVC.pure (hp) rfl ?_; rintro _ rfl; conv => whnf)
    (refine CallVC.pure (hs) rfl ?_; rintro _ rfl; conv => whnf)
    cases ff with
    | false =>
      conv => whnf
      exact arp0_le
    | true =>
      conv => whnf
      refine Fork.intro (fun q2 => ?_) (fun q2 => ?_)
      · have q2 : op < 1 := by have := of_decide_eq_true q2; omega
        rw [decide_eq_false (show ¬ op = 1 by omega), decide_eq_false (show ¬ op = 2 by omega)]
        conv => whnf
        exact arp0_le
      have q2 : ¬ op < 1 := by have := of_decide_eq_false q2; omega
      conv => whnf
      refine Fork.intro (fun q3 => ?_) (fun q3 => ?_)
      · have q3 : 2 < op := by have := of_decide_eq_true q3; omega
        rw [decide_eq_false (show ¬ op = 1 by omega), decide_eq_false (show ¬ op = 2 by omega)]
        conv => whnf
        exact arp0_le
      have q3 : ¬ 2 < op := by have := of_decide_eq_false q3; omega
      have q4 : (decide (op = 1) || decide (op = 2)) = true := by
        rcases (by omega : op = 1 ∨ op = 2) with rfl | rfl <;> rfl
      rw [q4]
      conv => whnf
      refine ⟨by decide, ?_⟩
      conv => whnf
      refine ⟨by decide, ?_⟩
      conv => whnf
      simp only [em2]
      by_cases q5 : x0 % 2 = 0
      · rw [decide_eq_true q5]
        conv => whnf
        refine Fork.intro (fun q6 => ?_) (fun q6 => ?_)
        · rw [decide_eq_true (show x0 + x1 + x2 + x3 + x4 + x5 = 0 by have : ((x0 + x1 + x2 + x3 + x4 + x5 : Nat) : Int) = 0 := of_decide_eq_true q6; omega)]
          conv => whnf
          exact arp0_le
        · rw [decide_eq_false (show ¬ x0 + x1 + x2 + x3 + x4 + x5 = 0 by have : ¬ ((x0 + x1 + x2 + x3 + x4 + x5 : Nat) : Int) = 0 := of_decide_eq_false q6; omega)]
          conv => whnf
          exact DLe.refl _
      · rw [decide_eq_false q5]
        conv => whnf
        exact arp0_le
end Go.Proofs.YtgodclgcfpmloaaGreatDoor.V
