/-
  Right filters are trees: plain laws. No condition.
  The document's filters: which may be, what a step asks, what a part answers: by value. Conditions: bytes, not too many; numbers of their types.
  Where a part of a right filter begins, what it answers: the document's, by value. Conditions: bytes, not too many; numbers of their types.
  The law FilterMatches by value, where lives is true. Conditions: bytes, numbers of their types.
-/
import Derived.Test.YtfghccppoilfhaaK6
import Derived.Test.YtfghccppoilfhaaK5
import Derived.Test.YtfghccppoilfhaaK1
import Derived.Laws.MakeOwn
import Derived.WalkKit
import Derived.WalkSpells
import Derived.WalkLawsBesides
import Derived.Deep.Light
import Derived.Deep.RegionHeld3
import Derived.Deep.MidRow
import Derived.Lib.Hide
import Derived.Laws.BitsAllLaws
import Derived.Test.YtfghccppoilfhaaProg
import Derived.LoopTactic
import Derived.Handy
namespace Go.Proofs.Ytfghccppoilfhaa.V
open Go.RowKit

inductive FT where
  | leaf (x : FSt)
  | no (t : FT)
  | an (l r : FT)
  | or (l r : FT)
namespace FT
def flat : FT → List FSt
  | leaf x => [x]
  | no t => t.flat ++ [opSt 13]
  | an l r => l.flat ++ (r.flat ++ [opSt 11])
  | or l r => l.flat ++ (r.flat ++ [opSt 12])
def ok : FT → Prop
  | leaf x => bareB x = true ∧ 1 ≤ x.op ∧ x.op ≤ 10
  | no t => t.ok
  | an l r => l.ok ∧ r.ok
  | or l r => l.ok ∧ r.ok
theorem flat_pos : ∀ t : FT, 0 < t.flat.length
  | leaf x => Nat.zero_lt_one
  | no t => by rw [flat, List.length_append, List.length_singleton]; omega
  | an l r => by rw [flat, List.length_append, List.length_append, List.length_singleton]; omega
  | or l r => by rw [flat, List.length_append, List.length_append, List.length_singleton]; omega
end FT
def flats (ts : List FT) : List FSt := (ts.map FT.flat).flatten
theorem flats_app (a b : List FT) : flats (a ++ b) = flats a ++ flats b := by unfold flats; rw [List.map_append, List.flatten_append]
theorem flats_one (t : FT) : flats [t] = t.flat := by simp [flats]
theorem flats_nil : flats [] = [] := rfl
theorem bare_op {x : FSt} (h : bareB x = true) : 1 ≤ x.op ∧ x.op ≤ 13 ∧ (11 ≤ x.op → x = opSt x.op) := by
  obtain ⟨op, a, n⟩ := x
  unfold bareB at h
  dsimp only at h ⊢
  cases h1 : decide (0 ≤ boundI op) with
  | false => rw [h1] at h; cases h
  | true =>
    rw [h1] at h
    dsimp only at h
    cases h2 : decide (0 ≤ n) with
    | false => rw [h2] at h; cases h
    | true =>
      rw [h2] at h
      dsimp only at h
      cases h3 : decide (n ≤ boundI op) with
      | false => rw [h3] at h; cases h
      | true =>
        rw [h3] at h
        dsimp only at h
        have h1 := of_decide_eq_true h1
        have h2 := of_decide_eq_true h2
        have h3 := of_decide_eq_true h3
        have hr : 1 ≤ op ∧ op ≤ 13 := by
          unfold boundI at h1
          repeat' split at h1
          all_goals simp only [decide_eq_true_eq, decide_eq_false_iff_not] at *
          all_goals omega
        refine ⟨hr.1, hr.2, fun h11 => ?_⟩
        have hb : boundI op = 0 := by
          unfold boundI
          repeat' split
          all_goals simp only [decide_eq_true_eq, decide_eq_false_iff_not] at *
          all_goals omega
        have hn : netB op = false := by
          unfold netB
          rw [decide_eq_false (by omega)]
          exact decide_eq_false (by omega)
        rw [hn] at h
        have h4 := of_decide_eq_true h
        have e1 : n = 0 := by omega
        have e2 : a = 0 := by omega
        rw [e1, e2]
theorem takes_of (op : Int) (h1 : 1 ≤ op) (h2 : op ≤ 13) : (op ≤ 10 ∧ takesN op = 0) ∨ (op = 11 ∧ takesN op = 2) ∨ (op = 12 ∧ takesN op = 2) ∨ (op = 13 ∧ takesN op = 1) := by
  by_cases h : op ≤ 10
  · refine .inl ⟨h, ?_⟩
    unfold takesN
    rw [decide_eq_false (show ¬ op = 11 by omega), decide_eq_false (show ¬ op = 12 by omega), decide_eq_false (show ¬ op = 13 by omega)]
  · rcases (by omega : op = 11 ∨ op = 12 ∨ op = 13) with rfl | rfl | rfl
    · exact .inr (.inl ⟨rfl, rfl⟩)
    · exact .inr (.inr (.inl ⟨rfl, rfl⟩))
    · exact .inr (.inr (.inr ⟨rfl, rfl⟩))
theorem snoc {α : Type} {l : List α} {n : Nat} (h : l.length = n + 1) : ∃ a x, l = a ++ [x] ∧ a.length = n := by
  have hne : l ≠ [] := by intro e; rw [e] at h; cases h
  refine ⟨l.dropLast, l.getLast hne, (List.dropLast_concat_getLast hne).symm, ?_⟩
  rw [List.length_dropLast]; omega
theorem trees_ok {ts : List FT} {t : FT} (h : ∀ x, x ∈ ts ++ [t] → x.ok) : (∀ x, x ∈ ts → x.ok) ∧ t.ok := ⟨fun x hx => h x (List.mem_append_left _ hx), h t (List.mem_append_right _ (List.mem_singleton.2 rfl))⟩
theorem ok_snoc {ts : List FT} {t : FT} (h : ∀ x, x ∈ ts → x.ok) (k : t.ok) : ∀ x, x ∈ ts ++ [t] → x.ok := fun x hx => (List.mem_append.1 hx).elim (h x) fun hx => by rw [List.mem_singleton.1 hx]; exact k
theorem trees_of : ∀ (k : Nat) (f : List FSt) (m : Nat), f.length = k → goR 0 f = some m → ∃ ts : List FT, ts.length = m ∧ f = flats ts ∧ ∀ t, t ∈ ts → t.ok := by
  intro k
  induction k with
  | zero =>
    intro f m hk h
    obtain rfl := List.eq_nil_of_length_eq_zero hk
    rw [goR] at h
    injection h with h
    exact ⟨[], h, rfl, fun t ht => absurd ht List.not_mem_nil⟩
  | succ k ih =>
    intro f m hk h
    obtain ⟨g, x, rfl, hg⟩ := snoc hk
    rw [goR_app] at h
    cases hq : goR 0 g with
    | none => rw [hq] at h; cases h
    | some n =>
      rw [hq] at h
      obtain ⟨h0, h1, h2⟩ := goR_cons h
      rw [goR] at h2
      injection h2 with h2
      obtain ⟨ts, ht, rfl, hok⟩ := ih g n hg hq
      obtain ⟨b1, b2, b3⟩ := bare_op h0
      rcases takes_of x.op b1 b2 with ⟨c1, c2⟩ | ⟨c1, c2⟩ | ⟨c1, c2⟩ | ⟨c1, c2⟩
      · refine ⟨ts ++ [.leaf x], by rw [List.length_append, List.length_singleton]; omega, by rw [flats_app, flats_one]; rfl, ok_snoc hok (t := .leaf x) ⟨h0, b1, c1⟩⟩
      · obtain ⟨ts1, t2, rfl, e1⟩ := snoc (n := n - 1) (l := ts) (by omega)
        obtain ⟨ts2, t1, rfl, e2⟩ := snoc (n := n - 2) (l := ts1) (by omega)
        obtain ⟨o1, o2⟩ := trees_ok hok
        obtain ⟨o3, o4⟩ := trees_ok o1
        refine ⟨ts2 ++ [.an t1 t2], by rw [List.length_append, List.length_singleton]; omega, ?_, ok_snoc o3 (t := .an t1 t2) ⟨o4, o2⟩⟩
        rw [flats_app, flats_app, flats_app, flats_one, flats_one, flats_one, b3 (by omega), c1, FT.flat]
        simp only [List.append_assoc]
      · obtain ⟨ts1, t2, rfl, e1⟩ := snoc (n := n - 1) (l := ts) (by omega)
        obtain ⟨ts2, t1, rfl, e2⟩ := snoc (n := n - 2) (l := ts1) (by omega)
        obtain ⟨o1, o2⟩ := trees_ok hok
        obtain ⟨o3, o4⟩ := trees_ok o1
        refine ⟨ts2 ++ [.or t1 t2], by rw [List.length_append, List.length_singleton]; omega, ?_, ok_snoc o3 (t := .or t1 t2) ⟨o4, o2⟩⟩
        rw [flats_app, flats_app, flats_app, flats_one, flats_one, flats_one, b3 (by omega), c1, FT.flat]
        simp only [List.append_assoc]
      · obtain ⟨ts1, t2, rfl, e1⟩ := snoc (n := n - 1) (l := ts) (by omega)
        obtain ⟨o1, o2⟩ := trees_ok hok
        refine ⟨ts1 ++ [.no t2], by rw [List.length_append, List.length_singleton]; omega, ?_, ok_snoc o1 (t := .no t2) o2⟩
        rw [flats_app, flats_app, flats_one, flats_one, b3 (by omega), c1, FT.flat]
        simp only [List.append_assoc]
theorem tree_of {f : List FSt} (h : rightF f = true) : ∃ t : FT, f = t.flat ∧ t.ok := by
  obtain ⟨ts, h1, h2, h3⟩ := trees_of f.length f 1 rfl (right_go h).1
  match ts, h1 with
  | [t], _ => exact ⟨t, h2.trans (flats_one t), h3 t (List.mem_singleton.2 rfl)⟩

end Go.Proofs.Ytfghccppoilfhaa.V
namespace Go.Proofs.Ytfghccppoilfhaa.V
open Go.RowKit
attribute [local irreducible] Fn FnN FnR OpVC DLe

theorem as_fn (f : List FSt) (hl : f.length ≤ 1000000) : Fn Try.prog 4 [rowsF f] fun d => d = rowsF f := by
  refine fnOf [] Try.func4 rfl (by kernel_rfl) (Nat.le_of_ble_eq_true rfl) ?_
  conv => whnf
  refine ⟨Nat, fun k => ⟨[(4, intD k), (3, .grow 0), (0, rowsF f)], [(0, .grow FSt 38 3 fstD (f.take k))], 1, ([], 0)⟩, fun k => k ≤ f.length, fun k => f.length - k, ⟨0, [], [0], ?_, Nat.zero_le _⟩, ?_⟩
  · repeat' (first | exact trivial | exact .inl (DLe.refl _) | exact .inl (DLe.nil _ _) | (refine .inr ⟨rfl, _, ?_, rfl⟩; rfl) | exact rfl | exact .inl rfl | exact .inr ⟨rfl, rfl, rfl, rfl⟩ | exact Nat.zero_le _ | constructor)
  intro k hk
  replace hk : k ≤ f.length := hk
  have e0 := wrapN (n := k) (by omega)
  conv => whnf
  refine Fork.intro (fun q => ?_) (fun q => ?_)
  · have q : k < f.length := by have := of_decide_eq_true q; omega
    obtain ⟨x, hx⟩ : ∃ x, f[k]? = some x := ⟨_, List.getElem?_eq_getElem q⟩
    have ht : f.take (k + 1) = f.take k ++ [x] := by rw [List.take_add_one, hx]; rfl
    have hk2 : (f.take (k + 1)).length ≤ 1000000 := by rw [List.length_take]; omega
    conv => whnf
    refine ⟨rfl, ⟨by omega, by omega⟩, fun y hy => ?_⟩
    obtain rfl : x = y := Option.some.inj (hx.symm.trans hy)
    conv => whnf
    refine ⟨rfl, ⟨by omega, by omega⟩, fun y hy => ?_⟩
    obtain rfl : x = y := Option.some.inj (hx.symm.trans hy)
    conv => whnf
    refine ⟨rfl, ⟨by omega, by omega⟩, fun y hy => ?_⟩
    obtain rfl : x = y := Option.some.inj (hx.symm.trans hy)
    conv => whnf
    (refine ⟨Nat.le_of_ble_eq_true rfl, ?_⟩; conv => whnf)
    refine ⟨FSt, fstD, f.take (k + 1), by rw [ht, List.map_append]; rfl, fun _ => rfl, by omega, (by show _ * 24 ≤ _; omega), rfl, ?_⟩
    conv => whnf
    rw [e0]
    refine ⟨k + 1, [(0, 1)], [], ?_, by show k + 1 ≤ f.length; omega, by show f.length - (k + 1) < f.length - k; omega⟩
    repeat' (first | exact trivial | exact .inl (DLe.refl _) | exact .inl (DLe.nil _ _) | (refine .inr ⟨rfl, _, ?_, rfl⟩; rfl) | exact rfl | exact .inl rfl | exact .inr ⟨rfl, rfl, rfl, rfl⟩ | exact Nat.zero_le _ | constructor)
  · have q : k = f.length := by have := of_decide_eq_false q; omega
    subst q
    rw [List.take_of_length_le (Nat.le_refl _)]
    conv => whnf
theorem bareB_iff (op : Int) (a : Nat) (n : Int) : bareB ⟨op, a, n⟩ = true ↔ 1 ≤ op ∧ op ≤ 13 ∧ 0 ≤ n ∧ ((op = 5 ∨ op = 6) ∧ n ≤ 32 ∨ (op = 7 ∨ op = 8 ∨ op = 10) ∧ n ≤ 65535 ∨ n ≤ 0) ∧ (a = 0 ∨ op = 5 ∨ op = 6) := by
  have hb : (boundI op = 32 ∧ (op = 5 ∨ op = 6)) ∨ (boundI op = 65535 ∧ (op = 7 ∨ op = 8 ∨ op = 10)) ∨ (boundI op = -1 ∧ (op < 1 ∨ 13 < op)) ∨ (boundI op = 0 ∧ 1 ≤ op ∧ op ≤ 13 ∧ op ≠ 5 ∧ op ≠ 6 ∧ op ≠ 7 ∧ op ≠ 8 ∧ op ≠ 10) := by
    unfold boundI
    rcases (by omega : op = 5 ∨ op = 6 ∨ op = 7 ∨ op = 8 ∨ op = 10 ∨ (op ≠ 5 ∧ op ≠ 6 ∧ op ≠ 7 ∧ op ≠ 8 ∧ op ≠ 10)) with rfl | rfl | rfl | rfl | rfl | ⟨h1, h2, h3, h4, h5⟩
    · exact .inl ⟨rfl, by omega⟩
    · exact .inl ⟨rfl, by omega⟩
    · exact .inr (.inl ⟨rfl, by omega⟩)
    · exact .inr (.inl ⟨rfl, by omega⟩)
    · exact .inr (.inl ⟨rfl, by omega⟩)
    rw [decide_eq_false h1, decide_eq_false h2, decide_eq_false h3, decide_eq_false h4, decide_eq_false h5]
    dsimp only
    by_cases h6 : op < 1
    · rw [decide_eq_true h6]; exact .inr (.inr (.inl ⟨rfl, by omega⟩))
    rw [decide_eq_false h6]
    dsimp only
    by_cases h7 : 13 < op
    · rw [decide_eq_true h7]; exact .inr (.inr (.inl ⟨rfl, by omega⟩))
    rw [decide_eq_false h7]
    exact .inr (.inr (.inr ⟨rfl, by omega, by omega, h1, h2, h3, h4, h5⟩))
  have hn : netB op = true ↔ op = 5 ∨ op = 6 := by
    unfold netB
    split
    all_goals simp only [decide_eq_true_eq, decide_eq_false_iff_not, true_iff] at *
    all_goals omega
  unfold bareB
  dsimp only
  generalize boundI op = b at *
  generalize netB op = m at *
  repeat' split
  all_goals simp only [decide_eq_true_eq, decide_eq_false_iff_not, Bool.false_eq_true, false_iff, true_iff] at *
  all_goals omega
set_option maxHeartbeats 1000000 in
theorem rMay_fn (x : FSt) : Fn Try.prog 12 [.agg (fstD x)] fun d => d = boolD (bareB x) := by
  refine fnOf [] Try.func12 rfl (by kernel_rfl) (Nat.le_of_ble_eq_true rfl) ?_
  obtain ⟨op, a, n⟩ := x
  have key : ∀ b : Bool, (b = true ↔ 1 ≤ op ∧ op ≤ 13 ∧ 0 ≤ n ∧ ((op = 5 ∨ op = 6) ∧ n ≤ 32 ∨ (op = 7 ∨ op = 8 ∨ op = 10) ∧ n ≤ 65535 ∨ n ≤ 0) ∧ (a = 0 ∨ op = 5 ∨ op = 6)) → boolD b = boolD (bareB ⟨op, a, n⟩) := fun b hb => congrArg boolD (Bool.eq_iff_iff.2 (hb.trans (bareB_iff op a n).symm))
  conv => whnf
  repeat' (refine Fork.intro (fun q => ?_) (fun q => ?_) <;> conv => whnf)
  all_goals refine key _ ?_
  all_goals simp only [decide_eq_true_eq, decide_eq_false_iff_not, Bool.false_eq_true, false_iff, true_iff, Bool.or_eq_true, Bool.not_eq_true', Bool.not_eq_false'] at *
  all_goals omega
set_option maxHeartbeats 2000000 in
theorem rRight_fn (f : List FSt) (hl : f.length ≤ 1000000) : Fn Try.prog 5 [rowsF f] fun d => d = boolD (rightF f) := by
  refine fnOf [] Try.func5 rfl (by kernel_rfl) (Nat.le_of_ble_eq_true rfl) ?_
  have hno : goR 0 f = none → rightF f = false := fun h => by
    unfold rightF
    rw [h, decide_eq_false (show ¬ (none : Option Nat) = some 1 by intro h; cases h), Bool.and_false]
  conv => whnf
  refine ⟨Nat × Nat, fun p => ⟨[(4, intD p.1), (3, intD p.2), (0, rowsF f)], [], 0, ([], 0)⟩, fun p => p.1 ≤ f.length ∧ p.2 ≤ p.1 ∧ goR p.2 (f.drop p.1) = goR 0 f, fun p => f.length - p.1, ⟨(0, 0), [], [], ?_, Nat.zero_le _, Nat.le_refl _, rfl⟩, ?_⟩
  · repeat' (first | exact trivial | exact .inl (DLe.refl _) | exact .inl (DLe.nil _ _) | (refine .inr ⟨rfl, _, ?_, rfl⟩; rfl) | exact rfl | exact .inl rfl | exact .inr ⟨rfl, rfl, rfl, rfl⟩ | exact Nat.zero_le _ | constructor)
  rintro ⟨k, n⟩ ⟨hk, hn, hg⟩
  dsimp only at hk hn hg
  dsimp only
  have e0 := wrapN (n := k) (by omega)
  conv => whnf
  refine Fork.intro (fun q => ?_) (fun q => ?_)
  · have q : k < f.length := by have := of_decide_eq_true q; omega
    obtain ⟨x, hx⟩ : ∃ x, f[k]? = some x := ⟨_, List.getElem?_eq_getElem q⟩
    have hd : f.drop k = x :: f.drop (k + 1) := by
      rw [List.drop_eq_getElem_cons q]
      congr 1
      rw [List.getElem?_eq_getElem q] at hx
      injection hx
    rw [hd, goR] at hg
    have hmay := rMay_fn x
    have hstep : ∀ m : Nat, goR m (f.drop (k + 1)) = goR 0 f → m ≤ k + 1 → ∀ z : Int, z = (m : Int) → ∃ p : Nat × Nat, z = (p.2 : Int) ∧ p.1 = k + 1 ∧ (p.1 ≤ f.length ∧ p.2 ≤ p.1 ∧ goR p.2 (f.drop p.1) = goR 0 f) ∧ f.length - p.1 < f.length - k := fun m h1 h2 z hz => ⟨(k + 1, m), hz, rfl, ⟨by show k + 1 ≤ f.length; omega, h2, h1⟩, by show f.length - (k + 1) < f.length - k; omega⟩
    have wN : ∀ (z : Int) (m : Nat), z = (m : Int) → m ≤ 2000000 → IntKind.i64.wrap z = (m : Int) := fun z m h h2 => by rw [h, IntWalk.i64_in _ (by omega)]
    have xop : ∀ (y : FSt), f[Int.toNat (k : Int)]? = some y → x = y := fun y hy => Option.some.inj (hx.symm.trans hy)
    conv => whnf
    refine ⟨rfl, ⟨by omega, by omega⟩, fun y hy => ?_⟩
    obtain rfl := xop y hy
    conv => whnf
    (refine CallVC.pure (hmay) rfl ?_; rintro _ rfl; conv => whnf)
    cases hb : bareB x with
    | false =>
      rw [hb] at hg
      conv => whnf
      rw [hno hg.symm]
    | true =>
      rw [hb] at hg
      dsimp only at hg
      obtain ⟨b1, b2, _⟩ := bare_op hb
      conv => whnf
      refine ⟨rfl, ⟨by omega, by omega⟩, fun y hy => ?_⟩
      obtain rfl := xop y hy
      conv => whnf
      obtain ⟨op, a, nm⟩ := x
      dsimp only at b1 b2 hg
      rcases takes_of op b1 b2 with ⟨c1, c2⟩ | ⟨c1, c2⟩ | ⟨c1, c2⟩ | ⟨c1, c2⟩
      all_goals rw [c2] at hg
      · rw [decide_eq_false (Nat.not_lt_zero n)] at hg
        dsimp only at hg
        refine Fork.intro (fun q => absurd (show op = 13 from of_decide_eq_true q) (by omega)) (fun _ => ?_)
        conv => whnf
        refine ⟨rfl, ⟨by omega, by omega⟩, fun y hy => ?_⟩
        obtain rfl := xop y hy
        conv => whnf
        refine Fork.intro (fun q => absurd (show 10 < op from of_decide_eq_true q) (by omega)) (fun _ => ?_)
        conv => whnf
        refine ⟨rfl, ⟨by omega, by omega⟩, fun y hy => ?_⟩
        obtain rfl := xop y hy
        conv => whnf
        refine Fork.intro (fun _ => ?_) (fun q => absurd (show ¬ op < 11 from of_decide_eq_false q) (by omega))
        conv => whnf
        rw [e0, wN ((n : Int) + 1) (n + 1 - 0) (by omega) (by omega)]
        refine ⟨(k + 1, n + 1 - 0), [], [], ?_, ⟨by show k + 1 ≤ f.length; omega, by show n + 1 - 0 ≤ k + 1; omega, hg⟩, by show f.length - (k + 1) < f.length - k; omega⟩
        repeat' (first | exact trivial | exact .inl (DLe.refl _) | exact .inl (DLe.nil _ _) | (refine .inr ⟨rfl, _, ?_, rfl⟩; rfl) | exact rfl | exact .inl rfl | exact .inr ⟨rfl, rfl, rfl, rfl⟩ | exact Nat.zero_le _ | constructor)
      · obtain rfl : op = 11 := c1
        refine ⟨rfl, ⟨by omega, by omega⟩, fun y hy => ?_⟩
        obtain rfl := xop y hy
        conv => whnf
        refine ⟨rfl, ⟨by omega, by omega⟩, fun y hy => ?_⟩
        obtain rfl := xop y hy
        conv => whnf
        refine Fork.intro (fun q2 => ?_) (fun q2 => ?_)
        · rw [decide_eq_true (show n < 2 by have := of_decide_eq_true q2; omega)] at hg
          conv => whnf
          rw [hno hg.symm]
        rw [decide_eq_false (show ¬ n < 2 by have := of_decide_eq_false q2; omega)] at hg
        have q2 : ¬ n < 2 := by have := of_decide_eq_false q2; omega
        dsimp only at hg
        conv => whnf
        refine ⟨rfl, ⟨by omega, by omega⟩, fun y hy => ?_⟩
        obtain rfl := xop y hy
        conv => whnf
        refine ⟨rfl, ⟨by omega, by omega⟩, fun y hy => ?_⟩
        obtain rfl := xop y hy
        conv => whnf
        rw [e0, wN ((n : Int) - 1) (n + 1 - 2) (by omega) (by omega)]
        refine ⟨(k + 1, n + 1 - 2), [], [], ?_, ⟨by show k + 1 ≤ f.length; omega, by show n + 1 - 2 ≤ k + 1; omega, hg⟩, by show f.length - (k + 1) < f.length - k; omega⟩
        repeat' (first | exact trivial | exact .inl (DLe.refl _) | exact .inl (DLe.nil _ _) | (refine .inr ⟨rfl, _, ?_, rfl⟩; rfl) | exact rfl | exact .inl rfl | exact .inr ⟨rfl, rfl, rfl, rfl⟩ | exact Nat.zero_le _ | constructor)
      · obtain rfl : op = 12 := c1
        refine ⟨rfl, ⟨by omega, by omega⟩, fun y hy => ?_⟩
        obtain rfl := xop y hy
        conv => whnf
        refine ⟨rfl, ⟨by omega, by omega⟩, fun y hy => ?_⟩
        obtain rfl := xop y hy
        conv => whnf
        refine Fork.intro (fun q2 => ?_) (fun q2 => ?_)
        · rw [decide_eq_true (show n < 2 by have := of_decide_eq_true q2; omega)] at hg
          conv => whnf
          rw [hno hg.symm]
        rw [decide_eq_false (show ¬ n < 2 by have := of_decide_eq_false q2; omega)] at hg
        have q2 : ¬ n < 2 := by have := of_decide_eq_false q2; omega
        dsimp only at hg
        conv => whnf
        refine ⟨rfl, ⟨by omega, by omega⟩, fun y hy => ?_⟩
        obtain rfl := xop y hy
        conv => whnf
        refine ⟨rfl, ⟨by omega, by omega⟩, fun y hy => ?_⟩
        obtain rfl := xop y hy
        conv => whnf
        rw [e0, wN ((n : Int) - 1) (n + 1 - 2) (by omega) (by omega)]
        refine ⟨(k + 1, n + 1 - 2), [], [], ?_, ⟨by show k + 1 ≤ f.length; omega, by show n + 1 - 2 ≤ k + 1; omega, hg⟩, by show f.length - (k + 1) < f.length - k; omega⟩
        repeat' (first | exact trivial | exact .inl (DLe.refl _) | exact .inl (DLe.nil _ _) | (refine .inr ⟨rfl, _, ?_, rfl⟩; rfl) | exact rfl | exact .inl rfl | exact .inr ⟨rfl, rfl, rfl, rfl⟩ | exact Nat.zero_le _ | constructor)
      · obtain rfl : op = 13 := c1
        refine Fork.intro (fun q2 => ?_) (fun q2 => ?_)
        · rw [decide_eq_true (show n < 1 by have := of_decide_eq_true q2; omega)] at hg
          conv => whnf
          rw [hno hg.symm]
        rw [decide_eq_false (show ¬ n < 1 by have := of_decide_eq_false q2; omega)] at hg
        have q2 : ¬ n < 1 := by have := of_decide_eq_false q2; omega
        dsimp only at hg
        conv => whnf
        refine ⟨rfl, ⟨by omega, by omega⟩, fun y hy => ?_⟩
        obtain rfl := xop y hy
        conv => whnf
        refine ⟨rfl, ⟨by omega, by omega⟩, fun y hy => ?_⟩
        obtain rfl := xop y hy
        conv => whnf
        refine ⟨rfl, ⟨by omega, by omega⟩, fun y hy => ?_⟩
        obtain rfl := xop y hy
        conv => whnf
        refine ⟨rfl, ⟨by omega, by omega⟩, fun y hy => ?_⟩
        obtain rfl := xop y hy
        conv => whnf
        rw [e0]
        rw [show (n : Int) = ((n + 1 - 1 : Nat) : Int) by omega]
        refine ⟨(k + 1, n + 1 - 1), [], [], ?_, ⟨by show k + 1 ≤ f.length; omega, by show n + 1 - 1 ≤ k + 1; omega, hg⟩, by show f.length - (k + 1) < f.length - k; omega⟩
        repeat' (first | exact trivial | exact .inl (DLe.refl _) | exact .inl (DLe.nil _ _) | (refine .inr ⟨rfl, _, ?_, rfl⟩; rfl) | exact rfl | exact .inl rfl | exact .inr ⟨rfl, rfl, rfl, rfl⟩ | exact Nat.zero_le _ | constructor)
  · have q : k = f.length := by have := of_decide_eq_false q; omega
    rw [q, List.drop_length, goR] at hg
    unfold rightF
    rw [← hg]
    conv => whnf
    refine Fork.intro (fun q1 => ?_) (fun q1 => ?_)
    · have q1 : n = 1 := by have := of_decide_eq_true q1; omega
      subst q1
      rw [decide_eq_true (show 0 < f.length by omega)]
      conv => whnf
      refine congrArg boolD ?_
      rw [decide_eq_true (show some 1 = some 1 from rfl), Bool.true_and, Bool.and_true]
      exact decide_eq_decide.2 (by omega)
    · have q1 : ¬ n = 1 := by have := of_decide_eq_false q1; omega
      rw [decide_eq_false (show ¬ some n = some 1 by intro h; injection h with h; omega), Bool.and_false]
      conv => whnf
end Go.Proofs.Ytfghccppoilfhaa.V
namespace Go.Proofs.Ytfghccppoilfhaa.V
open Go.RowKit
attribute [local irreducible] Fn FnN FnR OpVC DLe

def FT.unl : FT → FSt × List FT
  | .leaf x => (x, [])
  | .no t => (opSt 13, [t])
  | .an l r => (opSt 11, [l, r])
  | .or l r => (opSt 12, [l, r])
theorem flats_two (l r : FT) : flats [l, r] = l.flat ++ r.flat := by simp [flats]
theorem FT.unl_flat : ∀ t : FT, t.flat = flats t.unl.2 ++ [t.unl.1]
  | .leaf x => rfl
  | .no t => by rw [FT.flat, FT.unl, flats_one]
  | .an l r => by rw [FT.flat, FT.unl, flats_two, List.append_assoc]
  | .or l r => by rw [FT.flat, FT.unl, flats_two, List.append_assoc]
theorem FT.unl_ok : ∀ {t : FT}, t.ok → ∀ u, u ∈ t.unl.2 → u.ok
  | .leaf x, _, u, hu => absurd hu List.not_mem_nil
  | .no t, h, u, hu => by rw [List.mem_singleton.1 hu]; exact h
  | .an l r, h, u, hu => by rcases List.mem_cons.1 hu with rfl | hu; exact h.1; rw [List.mem_singleton.1 hu]; exact h.2
  | .or l r, h, u, hu => by rcases List.mem_cons.1 hu with rfl | hu; exact h.1; rw [List.mem_singleton.1 hu]; exact h.2
theorem FT.unl_op : ∀ {t : FT}, t.ok → (t.unl.2.length = 0 ∧ 1 ≤ t.unl.1.op ∧ t.unl.1.op ≤ 10) ∨ (t.unl.2.length = 2 ∧ (t.unl.1.op = 11 ∨ t.unl.1.op = 12)) ∨ (t.unl.2.length = 1 ∧ t.unl.1.op = 13)
  | .leaf x, h => .inl ⟨rfl, h.2⟩
  | .no t, _ => .inr (.inr ⟨rfl, rfl⟩)
  | .an l r, _ => .inr (.inl ⟨rfl, .inl rfl⟩)
  | .or l r, _ => .inr (.inl ⟨rfl, .inr rfl⟩)
set_option maxHeartbeats 2000000 in
theorem part45_fn (f pre post : List FSt) (t : FT) (ht : t.ok) (hf : f = pre ++ (t.flat ++ post)) (hl : f.length ≤ 1000) (z : Int) (hz : z + 1 = ((pre.length + t.flat.length : Nat) : Int)) : Fn Try.prog 18 [rowsF f, intD z] fun d => d = intD pre.length := by
  refine fnOf [] Try.func18 rfl (by kernel_rfl) (Nat.le_of_ble_eq_true rfl) ?_
  conv => whnf
  refine ⟨List FT × Int × Int, fun p => ⟨[(6, intD p.2.1), (5, intD p.2.2), (0, rowsF f)], [], 0, ([], 0)⟩, fun p => (∀ u, u ∈ p.1 → u.ok) ∧ p.2.1 + 1 = ((pre.length + (flats p.1).length : Nat) : Int) ∧ p.2.2 = (p.1.length : Int) ∧ ∃ rest, f = pre ++ (flats p.1 ++ rest), fun p => (flats p.1).length,
    ⟨([t], z, 1), [], [], ?_, fun u hu => by rw [List.mem_singleton.1 hu]; exact ht, by rw [flats_one]; exact hz, rfl, post, by rw [flats_one]; exact hf⟩, ?_⟩
  · repeat' (first | exact trivial | exact .inl (DLe.refl _) | exact .inl (DLe.nil _ _) | (refine .inr ⟨rfl, _, ?_, rfl⟩; rfl) | exact rfl | exact .inl rfl | exact .inr ⟨rfl, rfl, rfl, rfl⟩ | exact Nat.zero_le _ | constructor)
  rintro ⟨ts, a, w⟩ ⟨hok, ha, hw, rest, he⟩
  dsimp only at hok ha hw he
  dsimp only
  have hlen : pre.length + (flats ts).length ≤ f.length := by rw [he, List.length_append, List.length_append]; omega
  conv => whnf
  refine Fork.intro (fun q => ?_) (fun q => ?_)
  · have q : 0 < w := of_decide_eq_true q
    obtain ⟨ts0, u, rfl, _⟩ := snoc (l := ts) (n := ts.length - 1) (by omega)
    obtain ⟨ho1, ho2⟩ := trees_ok hok
    have hu := FT.unl_flat u
    have hop := FT.unl_op ho2
    have huo := FT.unl_ok ho2
    rw [flats_app, flats_one, hu] at ha he
    generalize hx : u.unl.1 = x at *
    generalize hv : u.unl.2 = vs at *
    rw [List.length_append, List.length_append, List.length_singleton] at ha
    rw [List.length_append, List.length_singleton] at hw
    obtain ⟨n, hn⟩ : ∃ n : Nat, a = (n : Int) := ⟨pre.length + ((flats ts0).length + (flats vs).length), by omega⟩
    subst hn
    have hge : f[n]? = some x := by
      rw [he, List.getElem?_append_right (by omega), List.append_assoc, List.getElem?_append_right (by omega), List.append_assoc, List.getElem?_append_right (by omega), show n - pre.length - (flats ts0).length - (flats vs).length = 0 by omega]
      rfl
    have hnl : n < f.length := (List.getElem?_eq_some_iff.1 hge).1
    have xop : ∀ (y : FSt), f[Int.toNat (n : Int)]? = some y → x = y := fun y hy => Option.some.inj (hge.symm.trans hy)
    have e1 : IntKind.i64.wrap ((n : Int) - 1) = (n : Int) - 1 := IntWalk.i64_in _ (by omega)
    have hvl : ((ts0 ++ vs).length : Int) = (ts0.length : Int) + (vs.length : Int) := by rw [List.length_append]; omega
    have hok' : ∀ y, y ∈ ts0 ++ vs → y.ok := fun y hy => (List.mem_append.1 hy).elim (ho1 y) (huo y)
    have hfl : flats (ts0 ++ vs) = flats ts0 ++ flats vs := flats_app _ _
    have hwt : ts0.length ≤ 1000 := by
      have : ∀ l : List FT, l.length ≤ (flats l).length := fun l => by
        induction l with
        | nil => exact Nat.le_refl _
        | cons y l ih =>
          have := FT.flat_pos y
          rw [show flats (y :: l) = y.flat ++ flats l from rfl, List.length_append, List.length_cons]; omega
      have := this ts0
      rw [flats_app, List.length_append] at hlen
      omega
    have hvs : vs.length ≤ 2 := by rcases hop with ⟨h, _⟩ | ⟨h, _⟩ | ⟨h, _⟩ <;> omega
    have fin : ∀ w' : Int, w' = ((ts0 ++ vs).length : Int) → (∀ y, y ∈ ts0 ++ vs → y.ok) ∧ ((n : Int) - 1) + 1 = ((pre.length + (flats (ts0 ++ vs)).length : Nat) : Int) ∧ w' = ((ts0 ++ vs).length : Int) ∧ ∃ rest, f = pre ++ (flats (ts0 ++ vs) ++ rest) := fun w' h => ⟨hok', by rw [hfl, List.length_append]; omega, h, x :: rest, by rw [he, hfl]; simp only [List.append_assoc]; rfl⟩
    have hdec : (flats (ts0 ++ vs)).length < (flats (ts0 ++ [u])).length := by rw [hfl, flats_app, flats_one, hu, List.length_append, List.length_append, List.length_append, List.length_singleton]; omega
    obtain ⟨op, ad, nm⟩ := x
    dsimp only at hop
    clear hx hv hu he
    conv => whnf
    refine ⟨rfl, ⟨by omega, by omega⟩, fun y hy => ?_⟩
    obtain rfl := xop y hy
    conv => whnf
    rcases hop with ⟨c0, c1, c2⟩ | ⟨c0, c1⟩ | ⟨c0, c1⟩
    · refine Fork.intro (fun q => absurd (show op = 11 from of_decide_eq_true q) (by omega)) (fun _ => ?_)
      conv => whnf
      refine ⟨rfl, ⟨by omega, by omega⟩, fun y hy => ?_⟩
      obtain rfl := xop y hy
      conv => whnf
      refine Fork.intro (fun q => absurd (show op = 12 from of_decide_eq_true q) (by omega)) (fun _ => ?_)
      conv => whnf
      refine ⟨rfl, ⟨by omega, by omega⟩, fun y hy => ?_⟩
      obtain rfl := xop y hy
      conv => whnf
      refine Fork.intro (fun q => absurd (show op = 13 from of_decide_eq_true q) (by omega)) (fun _ => ?_)
      conv => whnf
      rw [e1, IntWalk.i64_in (w - 1) (by omega)]
      refine ⟨(ts0 ++ vs, (n : Int) - 1, w - 1), [], [], ?_, fin (w - 1) (by omega), hdec⟩
      repeat' (first | exact trivial | exact .inl (DLe.refl _) | exact .inl (DLe.nil _ _) | (refine .inr ⟨rfl, _, ?_, rfl⟩; rfl) | exact rfl | exact .inl rfl | exact .inr ⟨rfl, rfl, rfl, rfl⟩ | exact Nat.zero_le _ | constructor)
    · rcases c1 with rfl | rfl
      · conv => whnf
        refine ⟨rfl, ⟨by omega, by omega⟩, fun y hy => ?_⟩
        obtain rfl := xop y hy
        conv => whnf
        rw [e1, IntWalk.i64_in (w + 2) (by omega), IntWalk.i64_in (w + 2 - 1) (by omega)]
        refine ⟨(ts0 ++ vs, (n : Int) - 1, w + 2 - 1), [], [], ?_, fin (w + 2 - 1) (by omega), hdec⟩
        repeat' (first | exact trivial | exact .inl (DLe.refl _) | exact .inl (DLe.nil _ _) | (refine .inr ⟨rfl, _, ?_, rfl⟩; rfl) | exact rfl | exact .inl rfl | exact .inr ⟨rfl, rfl, rfl, rfl⟩ | exact Nat.zero_le _ | constructor)
      · conv => whnf
        refine ⟨rfl, ⟨by omega, by omega⟩, fun y hy => ?_⟩
        obtain rfl := xop y hy
        conv => whnf
        refine ⟨rfl, ⟨by omega, by omega⟩, fun y hy => ?_⟩
        obtain rfl := xop y hy
        conv => whnf
        rw [e1, IntWalk.i64_in (w + 2) (by omega), IntWalk.i64_in (w + 2 - 1) (by omega)]
        refine ⟨(ts0 ++ vs, (n : Int) - 1, w + 2 - 1), [], [], ?_, fin (w + 2 - 1) (by omega), hdec⟩
        repeat' (first | exact trivial | exact .inl (DLe.refl _) | exact .inl (DLe.nil _ _) | (refine .inr ⟨rfl, _, ?_, rfl⟩; rfl) | exact rfl | exact .inl rfl | exact .inr ⟨rfl, rfl, rfl, rfl⟩ | exact Nat.zero_le _ | constructor)
    · obtain rfl := c1
      conv => whnf
      refine ⟨rfl, ⟨by omega, by omega⟩, fun y hy => ?_⟩
      obtain rfl := xop y hy
      conv => whnf
      refine ⟨rfl, ⟨by omega, by omega⟩, fun y hy => ?_⟩
      obtain rfl := xop y hy
      conv => whnf
      rw [e1, IntWalk.i64_in (w + 1) (by omega), IntWalk.i64_in (w + 1 - 1) (by omega)]
      refine ⟨(ts0 ++ vs, (n : Int) - 1, w + 1 - 1), [], [], ?_, fin (w + 1 - 1) (by omega), hdec⟩
      repeat' (first | exact trivial | exact .inl (DLe.refl _) | exact .inl (DLe.nil _ _) | (refine .inr ⟨rfl, _, ?_, rfl⟩; rfl) | exact rfl | exact .inl rfl | exact .inr ⟨rfl, rfl, rfl, rfl⟩ | exact Nat.zero_le _ | constructor)
  · have q : ¬ 0 < w := of_decide_eq_false q
    obtain rfl : ts = [] := List.eq_nil_of_length_eq_zero (by omega)
    rw [flats_nil, List.length_nil] at ha
    have e1 : IntKind.i64.wrap (a + 1) = (pre.length : Int) := by rw [IntWalk.i64_in _ (by omega)]; omega
    conv => whnf
    rw [e1]
end Go.Proofs.Ytfghccppoilfhaa.V
namespace Go.Proofs.Ytfghccppoilfhaa.V
open Go.RowKit
attribute [local irreducible] Fn FnN FnR OpVC DLe

theorem print0_fn (f : List FSt) (h : rightF f = false) : Fn Try.prog 6 [rowsF f] fun d => d = strD [] := by
  refine fnOf [] Try.func6 rfl (by kernel_rfl) (Nat.le_of_ble_eq_true rfl) ?_
  have hr := right_fn f
  rw [h] at hr
  conv => whnf
  (refine CallVC.pure (hr) rfl ?_; rintro _ rfl; conv => whnf)
  try rfl
end Go.Proofs.Ytfghccppoilfhaa.V
