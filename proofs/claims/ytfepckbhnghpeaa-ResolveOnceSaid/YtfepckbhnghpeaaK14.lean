/-
  What frames and ARP packets are in bytes: the program's and the document's, by value. Conditions: rows not too long; numbers of their types.
  Frames and ARP packets as bytes: the program's and the document's. Conditions: rows not too long; numbers of their types.
-/
import Derived.Test.YtfepckbhnghpeaaK6
import Derived.Test.YtfepckbhnghpeaaK4
import Derived.Test.YtfepckbhnghpeaaK19
namespace Go.Proofs.Ytfepckbhnghpeaa.V
open Go.RowKit

theorem dleLit2 {a b a' b' : D} (ha : DLe a a') (hb : DLe b b') : DLe (.lit 1 [[a], [b]]) (.lit 1 [[a'], [b']]) := fun C v h => by
  cases h with
  | lit bl o g hc hp hl hcell hrep =>
    refine .lit bl o g hc (fun _ => hp (by simp)) (fun i x hx => ?_) (fun i x j d hx hd => ?_) (fun i x j d hx hd => ?_)
    · match i, hx with
      | 0, hx => injection hx with hx; subst hx; rfl
      | 1, hx => injection hx with hx; subst hx; rfl
      | i + 2, hx => simp at hx
    · match i, hx with
      | 0, hx =>
        injection hx with hx; subst hx
        match j, hd with
        | 0, hd => exact hcell 0 _ 0 a rfl rfl
        | j + 1, hd => simp at hd
      | 1, hx =>
        injection hx with hx; subst hx
        match j, hd with
        | 0, hd => exact hcell 1 _ 0 b rfl rfl
        | j + 1, hd => simp at hd
      | i + 2, hx => simp at hx
    · match i, hx with
      | 0, hx =>
        injection hx with hx; subst hx
        match j, hd with
        | 0, hd => injection hd with hd; subst hd; exact ha _ _ (hrep 0 _ 0 a rfl rfl)
        | j + 1, hd => simp at hd
      | 1, hx =>
        injection hx with hx; subst hx
        match j, hd with
        | 0, hd => injection hd with hd; subst hd; exact hb _ _ (hrep 1 _ 0 b rfl rfl)
        | j + 1, hd => simp at hd
      | i + 2, hx => simp at hx
theorem reps_le1 {C : Ctx} {a b : D} (h : DLe b a) {vs : List Value} (hr : reps C [b] vs) : reps C [a] vs := reps_one (l := []) (r := []) h hr
attribute [local irreducible] Fn FnN FnR OpVC DLe
abbrev m6L (x0 x1 x2 x3 x4 x5 : Nat) : D := .lit 1 [[u8D x0], [u8D x1], [u8D x2], [u8D x3], [u8D x4], [u8D x5]]
theorem m6L_le (x0 x1 x2 x3 x4 x5 : Nat) : DLe (m6L x0 x1 x2 x3 x4 x5) (octR [x0, x1, x2, x3, x4, x5]) := dleLit (L := [x0, x1, x2, x3, x4, x5]) octE_flat
theorem FnNLe {f : FuncId} {args args' : List D} {Q : D → Prop} (h : FnN Try.prog f args Q) (hle : ∀ C vs, reps C args' vs → reps C args vs) : FnN Try.prog f args' Q := by
  unfold FnN at *
  exact ⟨h.1, fun w B vs hB hr => h.2 w B vs hB (hle _ _ hr)⟩
theorem joinN2_fn (a b : List Nat) (ha : a.length ≤ 1000000) (hb : b.length ≤ 1000000) : FnN Try.prog 47 [.lit 1 [[octR a], [octR b]]] fun d => d = octR (a ++ b) := by
  refine fnNOf [] Try.func47 rfl (by kernel_rfl) (Nat.le_of_ble_eq_true rfl) ?_
  conv => whnf
  refine ⟨Nat, fun k => ⟨[(8, intD k), (7, intD 2), (6, .lit 1 [[octR a], [octR b]]), (3, .grow 0)], [(0, .grow Nat 5 1 octE (match k with | 0 => [] | 1 => a | _ + 2 => a ++ b))], 1, ([], 0)⟩, fun k => k ≤ 2, fun k => 2 - k, ⟨0, [], [0], ?_, Nat.zero_le _⟩, ?_⟩
  · repeat' (first | exact trivial | exact .inl (DLe.refl _) | exact .inl (DLe.nil _ _) | (refine .inr ⟨rfl, _, ?_, rfl⟩; rfl) | exact rfl | exact .inl rfl | exact .inr ⟨rfl, rfl, rfl, rfl⟩ | exact Nat.zero_le _ | constructor)
  intro k hk
  rcases (by have : k ≤ 2 := hk; omega : k = 0 ∨ k = 1 ∨ k = 2) with rfl | rfl | rfl
  · conv => whnf
    refine ⟨rfl, ?_⟩
    conv => whnf
    refine ⟨Nat, octE, a, rfl, fun _ => rfl, by omega, by show a.length * 1 ≤ _; omega, rfl, ?_⟩
    conv => whnf
    refine ⟨1, [(0, 1)], [], ?_, by decide, by decide⟩
    repeat' (first | exact trivial | exact .inl (DLe.refl _) | exact .inl (DLe.nil _ _) | (refine .inr ⟨rfl, _, ?_, rfl⟩; rfl) | exact rfl | exact .inl rfl | exact .inr ⟨rfl, rfl, rfl, rfl⟩ | exact Nat.zero_le _ | constructor)
  · conv => whnf
    refine ⟨rfl, ?_⟩
    conv => whnf
    refine ⟨Nat, octE, a ++ b, by rw [List.map_append], fun _ => rfl, by rw [List.length_append]; omega, by rw [List.length_append]; show (a.length + b.length) * 1 ≤ _; omega, rfl, ?_⟩
    conv => whnf
    refine ⟨2, [(0, 1)], [], ?_, by decide, by decide⟩
    repeat' (first | exact trivial | exact .inl (DLe.refl _) | exact .inl (DLe.nil _ _) | (refine .inr ⟨rfl, _, ?_, rfl⟩; rfl) | exact rfl | exact .inl rfl | exact .inr ⟨rfl, rfl, rfl, rfl⟩ | exact Nat.zero_le _ | constructor)
  · conv => whnf
    exact ⟨fun _ => rfl, rfl⟩
theorem joinMM_fn (x0 x1 x2 x3 x4 x5 y0 y1 y2 y3 y4 y5 : Nat) : FnN Try.prog 47 [.lit 1 [[m6L x0 x1 x2 x3 x4 x5], [m6L y0 y1 y2 y3 y4 y5]]] fun d => d = octR ([x0, x1, x2, x3, x4, x5] ++ [y0, y1, y2, y3, y4, y5]) :=
  FnNLe (joinN2_fn _ _ (Nat.le_of_ble_eq_true rfl) (Nat.le_of_ble_eq_true rfl)) fun C vs hr => reps_le1 (dleLit2 (m6L_le ..) (m6L_le ..)) hr
theorem joinLM_fn (l : List Nat) (hl : l.length ≤ 1000000) (y0 y1 y2 y3 y4 y5 : Nat) : FnN Try.prog 47 [.lit 1 [[octR l], [m6L y0 y1 y2 y3 y4 y5]]] fun d => d = octR (l ++ [y0, y1, y2, y3, y4, y5]) :=
  FnNLe (joinN2_fn _ _ hl (Nat.le_of_ble_eq_true rfl)) fun C vs hr => reps_le1 (dleLit2 (DLe.refl _) (m6L_le ..)) hr

theorem octPut32o_fn (l : List Nat) (a : Nat) (hlen : l.length ≤ 1000000) : FnN Try.prog 64 [octR l, .lit 1 [[u32D a]]] fun d => d = octR (l ++ b4 a) := by
  refine fnNOf [] Try.func64 rfl (by kernel_rfl) (Nat.le_of_ble_eq_true rfl) ?_
  obtain ⟨a1, a2, a3, a4⟩ := b4_wrap a
  conv => whnf
  refine CallVC.row (octClone_row l hlen) rfl ?_
  conv => whnf
  refine ⟨Nat, fun k => ⟨[(12, intD k), (11, intD 1), (10, .lit 1 [[u32D a]]), (5, .grow 0)], [(0, .grow Nat 5 1 octE (match k with | 0 => l | _ + 1 => l ++ b4 a))], 1, ([], 0)⟩, fun k => k ≤ 1, fun k => 1 - k, ⟨0, [], [], ?_, Nat.zero_le _⟩, ?_⟩
  · repeat' (first | exact trivial | exact .inl (DLe.refl _) | exact .inl (DLe.nil _ _) | (refine .inr ⟨rfl, _, ?_, rfl⟩; rfl) | exact rfl | exact .inl rfl | exact .inr ⟨rfl, rfl, rfl, rfl⟩ | exact Nat.zero_le _ | constructor)
  · intro k hk
    rcases (by have : k ≤ 1 := hk; omega : k = 0 ∨ k = 1) with rfl | rfl
    · conv => whnf
      refine ⟨rfl, ?_⟩
      conv => whnf
      refine ⟨by decide, ?_⟩
      conv => whnf
      refine ⟨by decide, ?_⟩
      conv => whnf
      refine ⟨by decide, ?_⟩
      conv => whnf
      rw [a1, a2, a3, a4]
      (refine ⟨Nat.le_of_ble_eq_true rfl, ?_⟩; conv => whnf)
      refine ⟨Nat, octE, l ++ b4 a, by rw [List.map_append]; rfl, fun _ => rfl, by rw [List.length_append]; show l.length + 4 ≤ _; omega, by rw [List.length_append]; show (l.length + 4) * 1 ≤ _; omega, rfl, ?_⟩
      conv => whnf
      refine ⟨1, [(0, 1)], [], ?_, by decide, by decide⟩
      repeat' (first | exact trivial | exact .inl (DLe.refl _) | exact .inl (DLe.nil _ _) | (refine .inr ⟨rfl, _, ?_, rfl⟩; rfl) | exact rfl | exact .inl rfl | exact .inr ⟨rfl, rfl, rfl, rfl⟩ | exact Nat.zero_le _ | constructor)
    · conv => whnf
      exact ⟨fun _ => rfl, rfl⟩
theorem octPut32t_fn (l : List Nat) (a b : Nat) (hlen : l.length ≤ 1000000) : FnN Try.prog 64 [octR l, .lit 1 [[u32D a], [u32D b]]] fun d => d = octR (l ++ b4 a ++ b4 b) := by
  refine fnNOf [] Try.func64 rfl (by kernel_rfl) (Nat.le_of_ble_eq_true rfl) ?_
  obtain ⟨a1, a2, a3, a4⟩ := b4_wrap a
  obtain ⟨b1, b2, b3, b4'⟩ := b4_wrap b
  conv => whnf
  refine CallVC.row (octClone_row l hlen) rfl ?_
  conv => whnf
  refine ⟨Nat, fun k => ⟨[(12, intD k), (11, intD 2), (10, .lit 1 [[u32D a], [u32D b]]), (5, .grow 0)], [(0, .grow Nat 5 1 octE (match k with | 0 => l | 1 => l ++ b4 a | _ + 2 => l ++ b4 a ++ b4 b))], 1, ([], 0)⟩, fun k => k ≤ 2, fun k => 2 - k, ⟨0, [], [], ?_, Nat.zero_le _⟩, ?_⟩
  · repeat' (first | exact trivial | exact .inl (DLe.refl _) | exact .inl (DLe.nil _ _) | (refine .inr ⟨rfl, _, ?_, rfl⟩; rfl) | exact rfl | exact .inl rfl | exact .inr ⟨rfl, rfl, rfl, rfl⟩ | exact Nat.zero_le _ | constructor)
  · intro k hk
    rcases (by have : k ≤ 2 := hk; omega : k = 0 ∨ k = 1 ∨ k = 2) with rfl | rfl | rfl
    · conv => whnf
      refine ⟨rfl, ?_⟩
      conv => whnf
      refine ⟨by decide, ?_⟩
      conv => whnf
      refine ⟨by decide, ?_⟩
      conv => whnf
      refine ⟨by decide, ?_⟩
      conv => whnf
      rw [a1, a2, a3, a4]
      (refine ⟨Nat.le_of_ble_eq_true rfl, ?_⟩; conv => whnf)
      refine ⟨Nat, octE, l ++ b4 a, by rw [List.map_append]; rfl, fun _ => rfl, by rw [List.length_append]; show l.length + 4 ≤ _; omega, by rw [List.length_append]; show (l.length + 4) * 1 ≤ _; omega, rfl, ?_⟩
      conv => whnf
      refine ⟨1, [(0, 1)], [], ?_, by decide, by decide⟩
      repeat' (first | exact trivial | exact .inl (DLe.refl _) | exact .inl (DLe.nil _ _) | (refine .inr ⟨rfl, _, ?_, rfl⟩; rfl) | exact rfl | exact .inl rfl | exact .inr ⟨rfl, rfl, rfl, rfl⟩ | exact Nat.zero_le _ | constructor)
    · conv => whnf
      refine ⟨rfl, ?_⟩
      conv => whnf
      refine ⟨by decide, ?_⟩
      conv => whnf
      refine ⟨by decide, ?_⟩
      conv => whnf
      refine ⟨by decide, ?_⟩
      conv => whnf
      rw [b1, b2, b3, b4']
      (refine ⟨Nat.le_of_ble_eq_true rfl, ?_⟩; conv => whnf)
      refine ⟨Nat, octE, l ++ b4 a ++ b4 b, by rw [List.map_append (l₁ := l ++ b4 a)]; rfl, fun _ => rfl, by rw [List.length_append, List.length_append]; show l.length + 4 + 4 ≤ _; omega, by rw [List.length_append, List.length_append]; show (l.length + 4 + 4) * 1 ≤ _; omega, rfl, ?_⟩
      conv => whnf
      refine ⟨2, [(0, 1)], [], ?_, by decide, by decide⟩
      repeat' (first | exact trivial | exact .inl (DLe.refl _) | exact .inl (DLe.nil _ _) | (refine .inr ⟨rfl, _, ?_, rfl⟩; rfl) | exact rfl | exact .inl rfl | exact .inr ⟨rfl, rfl, rfl, rfl⟩ | exact Nat.zero_le _ | constructor)
    · conv => whnf
      exact ⟨fun _ => rfl, rfl⟩
theorem octPut16t_row (l : List Nat) (a b c : Nat) (hlen : l.length ≤ 1000000) : FnR Try.prog 57 [octR l, .lit 1 [[u16D a], [u16D b], [u16D c]]] Nat 5 1 octE (l ++ b2 a ++ b2 b ++ b2 c) := by
  refine fnROf [] Try.func57 rfl (by kernel_rfl) (Nat.le_of_ble_eq_true rfl) ?_
  obtain ⟨a1, a2⟩ := b2_wrap a
  obtain ⟨b1, b2'⟩ := b2_wrap b
  obtain ⟨c1, c2⟩ := b2_wrap c
  conv => whnf
  refine CallVC.row (octClone_row l hlen) rfl ?_
  conv => whnf
  refine ⟨Nat, fun k => ⟨[(12, intD k), (11, intD 3), (10, .lit 1 [[u16D a], [u16D b], [u16D c]]), (5, .grow 0)], [(0, .grow Nat 5 1 octE (match k with | 0 => l | 1 => l ++ b2 a | 2 => l ++ b2 a ++ b2 b | _ + 3 => l ++ b2 a ++ b2 b ++ b2 c))], 1, ([], 0)⟩, fun k => k ≤ 3, fun k => 3 - k, ⟨0, [], [], ?_, Nat.zero_le _⟩, ?_⟩
  · repeat' (first | exact trivial | exact .inl (DLe.refl _) | exact .inl (DLe.nil _ _) | (refine .inr ⟨rfl, _, ?_, rfl⟩; rfl) | exact rfl | exact .inl rfl | exact .inr ⟨rfl, rfl, rfl, rfl⟩ | exact Nat.zero_le _ | constructor)
  · intro k hk
    rcases (by have : k ≤ 3 := hk; omega : k = 0 ∨ k = 1 ∨ k = 2 ∨ k = 3) with rfl | rfl | rfl | rfl
    · conv => whnf
      refine ⟨rfl, ?_⟩
      conv => whnf
      refine ⟨by decide, ?_⟩
      conv => whnf
      rw [a1, a2]
      (refine ⟨Nat.le_of_ble_eq_true rfl, ?_⟩; conv => whnf)
      refine ⟨Nat, octE, l ++ b2 a, by rw [List.map_append]; rfl, fun _ => rfl, by rw [List.length_append]; show l.length + 2 ≤ _; omega, by rw [List.length_append]; show (l.length + 2) * 1 ≤ _; omega, rfl, ?_⟩
      conv => whnf
      refine ⟨1, [(0, 1)], [], ?_, by decide, by decide⟩
      repeat' (first | exact trivial | exact .inl (DLe.refl _) | exact .inl (DLe.nil _ _) | (refine .inr ⟨rfl, _, ?_, rfl⟩; rfl) | exact rfl | exact .inl rfl | exact .inr ⟨rfl, rfl, rfl, rfl⟩ | exact Nat.zero_le _ | constructor)
    · conv => whnf
      refine ⟨rfl, ?_⟩
      conv => whnf
      refine ⟨by decide, ?_⟩
      conv => whnf
      rw [b1, b2']
      (refine ⟨Nat.le_of_ble_eq_true rfl, ?_⟩; conv => whnf)
      refine ⟨Nat, octE, l ++ b2 a ++ b2 b, by rw [List.map_append (l₁ := l ++ b2 a)]; rfl, fun _ => rfl, by rw [List.length_append, List.length_append]; show l.length + 2 + 2 ≤ _; omega, by rw [List.length_append, List.length_append]; show (l.length + 2 + 2) * 1 ≤ _; omega, rfl, ?_⟩
      conv => whnf
      refine ⟨2, [(0, 1)], [], ?_, by decide, by decide⟩
      repeat' (first | exact trivial | exact .inl (DLe.refl _) | exact .inl (DLe.nil _ _) | (refine .inr ⟨rfl, _, ?_, rfl⟩; rfl) | exact rfl | exact .inl rfl | exact .inr ⟨rfl, rfl, rfl, rfl⟩ | exact Nat.zero_le _ | constructor)
    · conv => whnf
      refine ⟨rfl, ?_⟩
      conv => whnf
      refine ⟨by decide, ?_⟩
      conv => whnf
      rw [c1, c2]
      (refine ⟨Nat.le_of_ble_eq_true rfl, ?_⟩; conv => whnf)
      refine ⟨Nat, octE, l ++ b2 a ++ b2 b ++ b2 c, by rw [List.map_append (l₁ := l ++ b2 a ++ b2 b)]; rfl, fun _ => rfl, by rw [List.length_append, List.length_append, List.length_append]; show l.length + 2 + 2 + 2 ≤ _; omega, by rw [List.length_append, List.length_append, List.length_append]; show (l.length + 2 + 2 + 2) * 1 ≤ _; omega, rfl, ?_⟩
      conv => whnf
      refine ⟨3, [(0, 1)], [], ?_, by decide, by decide⟩
      repeat' (first | exact trivial | exact .inl (DLe.refl _) | exact .inl (DLe.nil _ _) | (refine .inr ⟨rfl, _, ?_, rfl⟩; rfl) | exact rfl | exact .inl rfl | exact .inr ⟨rfl, rfl, rfl, rfl⟩ | exact Nat.zero_le _ | constructor)
    · conv => whnf
      exact ⟨fun _ => rfl, rfl⟩
end Go.Proofs.Ytfepckbhnghpeaa.V
namespace Go.Proofs.Ytfepckbhnghpeaa.V
open Go.RowKit
attribute [local irreducible] Fn FnN FnR OpVC DLe

def putE (f : Frm) : List Nat := ((f.dst ++ f.src) ++ b2 f.type) ++ f.data
set_option maxRecDepth 10000 in
set_option maxHeartbeats 1000000 in
theorem etherPut_fn (x0 x1 x2 x3 x4 x5 y0 y1 y2 y3 y4 y5 t : Nat) (l : List Nat) (hl : l.length ≤ 900000) : Fn Try.prog 32 [.agg (frmD ⟨[x0, x1, x2, x3, x4, x5], [y0, y1, y2, y3, y4, y5], t, l⟩)] fun d => d = octR (putE ⟨[x0, x1, x2, x3, x4, x5], [y0, y1, y2, y3, y4, y5], t, l⟩) := by
  refine fnOf [(2, [0, 1, 2, 5, 6, 3, 4, 7, 8, 9])] Try.func32 rfl (by kernel_rfl) (Nat.le_of_ble_eq_true rfl) ?_
  have h1 := joinMM_fn x0 x1 x2 x3 x4 x5 y0 y1 y2 y3 y4 y5
  have h2 := octPut16_row ([x0, x1, x2, x3, x4, x5] ++ [y0, y1, y2, y3, y4, y5]) t (Nat.le_of_ble_eq_true rfl)
  have h3 := joinN2_fn ([x0, x1, x2, x3, x4, x5] ++ [y0, y1, y2, y3, y4, y5] ++ b2 t) l (by simp [b2]) (by omega)
  conv => whnf
  refine ⟨⟨rfl, rfl⟩, ?_⟩
  conv => whnf
  refine ⟨⟨rfl, rfl⟩, ?_⟩
  conv => whnf
  refine ⟨by decide, ?_⟩
  conv => whnf
  refine CallVC.look h1 rfl ?_
  rintro _ rfl
  conv => whnf
  refine ⟨by decide, ?_⟩
  conv => whnf
  refine CallVC.row h2 rfl ?_
  conv => whnf
  refine ⟨by decide, ?_⟩
  conv => whnf
  refine CallVC.look h3 rfl ?_
  rintro _ rfl
  conv => whnf
  rfl

/-! ### ARP packets: the program's -/
set_option maxRecDepth 10000 in
set_option maxHeartbeats 1000000 in
theorem arpPut_fn (op sip dip x0 x1 x2 x3 x4 x5 y0 y1 y2 y3 y4 y5 : Nat) : Fn Try.prog 58 [.agg (arpD ⟨op, [x0, x1, x2, x3, x4, x5], sip, [y0, y1, y2, y3, y4, y5], dip⟩)] fun d => d = octR (putA ⟨op, [x0, x1, x2, x3, x4, x5], sip, [y0, y1, y2, y3, y4, y5], dip⟩) := by
  refine fnOf [(1, [1001, 1, 2]), (2, [1001, 0, 1, 2, 5, 6]), (3, [1001, 0, 1, 2, 5, 6])] Try.func58 rfl (by kernel_rfl) (Nat.le_of_ble_eq_true rfl) ?_
  have hf := arpFirst_fn
  have h1 := octPut16_row firstA op (Nat.le_of_ble_eq_true rfl)
  have h2 := joinLM_fn (firstA ++ b2 op) (by simp [firstA, b2]) x0 x1 x2 x3 x4 x5
  have h3 := octPut32o_fn (firstA ++ b2 op ++ [x0, x1, x2, x3, x4, x5]) sip (by simp [firstA, b2])
  have h4 := joinLM_fn (firstA ++ b2 op ++ [x0, x1, x2, x3, x4, x5] ++ b4 sip) (by simp [firstA, b2, b4]) y0 y1 y2 y3 y4 y5
  have h5 := octPut32o_fn (firstA ++ b2 op ++ [x0, x1, x2, x3, x4, x5] ++ b4 sip ++ [y0, y1, y2, y3, y4, y5]) dip (by simp [firstA, b2, b4])
  conv => whnf
  refine ⟨Unit, fun _ => ⟨[(3, .grow 1), (1, .loc 0 0)], [(1, .grow Nat 5 1 octE (firstA ++ b2 op)), (0, .cells 43 (arpD ⟨op, [x0, x1, x2, x3, x4, x5], sip, [y0, y1, y2, y3, y4, y5], dip⟩))], 2, ([], 0)⟩, ?_, fun _ => ?_⟩
  · refine ⟨?_, ?_, trivial⟩
    · conv => whnf
      refine CallVC.pure hf rfl ?_
      rintro _ rfl
      conv => whnf
      refine ⟨?_, trivial⟩
      · conv => whnf
        refine ⟨by decide, ?_⟩
        conv => whnf
        refine ⟨?_, trivial⟩
        · conv => whnf
          refine CallVC.row h1 rfl ?_
          conv => whnf
          refine ⟨?_, trivial⟩
          · conv => whnf
            refine ⟨(), [], [], ?_⟩
            repeat' (first | exact trivial | exact .inl (DLe.refl _) | exact .inl (DLe.nil _ _) | (refine .inr ⟨rfl, _, ?_, rfl⟩; rfl) | exact rfl | exact .inl rfl | exact .inr ⟨rfl, rfl, rfl, rfl⟩ | exact Nat.zero_le _ | constructor)
    · conv => whnf
      refine ⟨by decide, ?_⟩
      conv => whnf
      refine ⟨?_, trivial⟩
      · conv => whnf
        refine CallVC.pure hf rfl ?_
        rintro _ rfl
        conv => whnf
        refine ⟨?_, trivial⟩
        · conv => whnf
          refine CallVC.row h1 rfl ?_
          conv => whnf
          refine ⟨?_, trivial⟩
          · conv => whnf
            refine ⟨(), [], [], ?_⟩
            repeat' (first | exact trivial | exact .inl (DLe.refl _) | exact .inl (DLe.nil _ _) | (refine .inr ⟨rfl, _, ?_, rfl⟩; rfl) | exact rfl | exact .inl rfl | exact .inr ⟨rfl, rfl, rfl, rfl⟩ | exact Nat.zero_le _ | constructor)
  conv => whnf
  refine ⟨Unit, fun _ => ⟨[(3, octR (firstA ++ b2 op ++ [x0, x1, x2, x3, x4, x5] ++ b4 sip)), (1, .loc 0 0)], [(0, .cells 43 (arpD ⟨op, [x0, x1, x2, x3, x4, x5], sip, [y0, y1, y2, y3, y4, y5], dip⟩))], 2, ([], 0)⟩, ?_, fun _ => ?_⟩
  · refine ⟨⟨rfl, rfl⟩, ?_⟩
    conv => whnf
    · refine ⟨?_, ?_, trivial⟩
      · conv => whnf
        refine ⟨by decide, ?_⟩
        conv => whnf
        refine ⟨?_, ?_, trivial⟩
        · conv => whnf
          refine CallVC.look h2 rfl ?_
          rintro _ rfl
          conv => whnf
          refine ⟨?_, trivial⟩
          · conv => whnf
            refine ⟨by decide, ?_⟩
            conv => whnf
            refine ⟨?_, trivial⟩
            · conv => whnf
              refine CallVC.look h3 rfl ?_
              rintro _ rfl
              conv => whnf
              refine ⟨?_, trivial⟩
              · conv => whnf
                refine ⟨(), [], [], ?_⟩
                repeat' (first | exact trivial | exact .inl (DLe.refl _) | exact .inl (DLe.nil _ _) | (refine .inr ⟨rfl, _, ?_, rfl⟩; rfl) | exact rfl | exact .inl rfl | exact .inr ⟨rfl, rfl, rfl, rfl⟩ | exact Nat.zero_le _ | constructor)
        · conv => whnf
          refine ⟨by decide, ?_⟩
          conv => whnf
          refine ⟨?_, trivial⟩
          · conv => whnf
            refine CallVC.look h2 rfl ?_
            rintro _ rfl
            conv => whnf
            refine ⟨?_, trivial⟩
            · conv => whnf
              refine CallVC.look h3 rfl ?_
              rintro _ rfl
              conv => whnf
              refine ⟨?_, trivial⟩
              · conv => whnf
                refine ⟨(), [], [], ?_⟩
                repeat' (first | exact trivial | exact .inl (DLe.refl _) | exact .inl (DLe.nil _ _) | (refine .inr ⟨rfl, _, ?_, rfl⟩; rfl) | exact rfl | exact .inl rfl | exact .inr ⟨rfl, rfl, rfl, rfl⟩ | exact Nat.zero_le _ | constructor)
      · conv => whnf
        refine ⟨by decide, ?_⟩
        conv => whnf
        refine ⟨?_, trivial⟩
        · conv => whnf
          refine ⟨by decide, ?_⟩
          conv => whnf
          refine ⟨?_, trivial⟩
          · conv => whnf
            refine CallVC.look h2 rfl ?_
            rintro _ rfl
            conv => whnf
            refine ⟨?_, trivial⟩
            · conv => whnf
              refine CallVC.look h3 rfl ?_
              rintro _ rfl
              conv => whnf
              refine ⟨?_, trivial⟩
              · conv => whnf
                refine ⟨(), [], [], ?_⟩
                repeat' (first | exact trivial | exact .inl (DLe.refl _) | exact .inl (DLe.nil _ _) | (refine .inr ⟨rfl, _, ?_, rfl⟩; rfl) | exact rfl | exact .inl rfl | exact .inr ⟨rfl, rfl, rfl, rfl⟩ | exact Nat.zero_le _ | constructor)
  conv => whnf
  refine ⟨Unit, fun _ => ⟨[(2, octR (firstA ++ b2 op ++ [x0, x1, x2, x3, x4, x5] ++ b4 sip ++ [y0, y1, y2, y3, y4, y5] ++ b4 dip))], [], 2, ([], 0)⟩, ?_, fun _ => ?_⟩
  · refine ⟨⟨rfl, rfl⟩, ?_⟩
    conv => whnf
    · refine ⟨?_, ?_, trivial⟩
      · conv => whnf
        refine ⟨by decide, ?_⟩
        conv => whnf
        refine ⟨?_, ?_, trivial⟩
        · conv => whnf
          refine CallVC.look h4 rfl ?_
          rintro _ rfl
          conv => whnf
          refine ⟨?_, trivial⟩
          · conv => whnf
            refine ⟨by decide, ?_⟩
            conv => whnf
            refine ⟨?_, trivial⟩
            · conv => whnf
              refine CallVC.look h5 rfl ?_
              rintro _ rfl
              conv => whnf
              refine ⟨?_, trivial⟩
              · conv => whnf
                refine ⟨(), [], [], ?_⟩
                repeat' (first | exact trivial | exact .inl (DLe.refl _) | exact .inl (DLe.nil _ _) | (refine .inr ⟨rfl, _, ?_, rfl⟩; rfl) | exact rfl | exact .inl rfl | exact .inr ⟨rfl, rfl, rfl, rfl⟩ | exact Nat.zero_le _ | constructor)
        · conv => whnf
          refine ⟨by decide, ?_⟩
          conv => whnf
          refine ⟨?_, trivial⟩
          · conv => whnf
            refine CallVC.look h4 rfl ?_
            rintro _ rfl
            conv => whnf
            refine ⟨?_, trivial⟩
            · conv => whnf
              refine CallVC.look h5 rfl ?_
              rintro _ rfl
              conv => whnf
              refine ⟨?_, trivial⟩
              · conv => whnf
                refine ⟨(), [], [], ?_⟩
                repeat' (first | exact trivial | exact .inl (DLe.refl _) | exact .inl (DLe.nil _ _) | (refine .inr ⟨rfl, _, ?_, rfl⟩; rfl) | exact rfl | exact .inl rfl | exact .inr ⟨rfl, rfl, rfl, rfl⟩ | exact Nat.zero_le _ | constructor)
      · conv => whnf
        refine ⟨by decide, ?_⟩
        conv => whnf
        refine ⟨?_, trivial⟩
        · conv => whnf
          refine ⟨by decide, ?_⟩
          conv => whnf
          refine ⟨?_, trivial⟩
          · conv => whnf
            refine CallVC.look h4 rfl ?_
            rintro _ rfl
            conv => whnf
            refine ⟨?_, trivial⟩
            · conv => whnf
              refine CallVC.look h5 rfl ?_
              rintro _ rfl
              conv => whnf
              refine ⟨?_, trivial⟩
              · conv => whnf
                refine ⟨(), [], [], ?_⟩
                repeat' (first | exact trivial | exact .inl (DLe.refl _) | exact .inl (DLe.nil _ _) | (refine .inr ⟨rfl, _, ?_, rfl⟩; rfl) | exact rfl | exact .inl rfl | exact .inr ⟨rfl, rfl, rfl, rfl⟩ | exact Nat.zero_le _ | constructor)
  conv => whnf
  show octR _ = octR _
  unfold putA
  simp only [List.append_assoc]
theorem arpAsk_fn (ip want x0 x1 x2 x3 x4 x5 : Nat) : Fn Try.prog 54 [.agg (m6D [x0, x1, x2, x3, x4, x5]), u32D ip, u32D want] fun d => d = .agg (arpD ⟨1, [x0, x1, x2, x3, x4, x5], ip, [0, 0, 0, 0, 0, 0], want⟩) := by
  refine fnOf [] Try.func54 rfl (by kernel_rfl) (Nat.le_of_ble_eq_true rfl) ?_
  conv => whnf
  rfl
theorem arpAnswer_fn (op sip dip x0 x1 x2 x3 x4 x5 y0 y1 y2 y3 y4 y5 z0 z1 z2 z3 z4 z5 : Nat) : Fn Try.prog 34 [.agg (arpD ⟨op, [x0, x1, x2, x3, x4, x5], sip, [y0, y1, y2, y3, y4, y5], dip⟩), .agg (m6D [z0, z1, z2, z3, z4, z5])] fun d => d = .agg (arpD ⟨2, [z0, z1, z2, z3, z4, z5], dip, [x0, x1, x2, x3, x4, x5], sip⟩) := by
  refine fnOf [] Try.func34 rfl (by kernel_rfl) (Nat.le_of_ble_eq_true rfl) ?_
  conv => whnf
  rfl
theorem etherAll_fn : Fn Try.prog 55 [] fun d => d = .agg (m6D [255, 255, 255, 255, 255, 255]) := by
  refine fnOf [] Try.func55 rfl (by kernel_rfl) (Nat.le_of_ble_eq_true rfl) ?_
  conv => whnf
  rfl
theorem arpFrame_fn (op sip dip x0 x1 x2 x3 x4 x5 y0 y1 y2 y3 y4 y5 z0 z1 z2 z3 z4 z5 : Nat) : Fn Try.prog 33 [.agg (arpD ⟨op, [x0, x1, x2, x3, x4, x5], sip, [y0, y1, y2, y3, y4, y5], dip⟩), .agg (m6D [z0, z1, z2, z3, z4, z5])] fun d => d = .agg (frmD ⟨[z0, z1, z2, z3, z4, z5], [x0, x1, x2, x3, x4, x5], 2054, putA ⟨op, [x0, x1, x2, x3, x4, x5], sip, [y0, y1, y2, y3, y4, y5], dip⟩⟩) := by
  refine fnOf [] Try.func33 rfl (by kernel_rfl) (Nat.le_of_ble_eq_true rfl) ?_
  have hp := arpPut_fn op sip dip x0 x1 x2 x3 x4 x5 y0 y1 y2 y3 y4 y5
  conv => whnf
  (refine CallVC.pure (hp) rfl ?_; rintro _ rfl; conv => whnf)
  rfl

/-! ### The document's -/
end Go.Proofs.Ytfepckbhnghpeaa.V
