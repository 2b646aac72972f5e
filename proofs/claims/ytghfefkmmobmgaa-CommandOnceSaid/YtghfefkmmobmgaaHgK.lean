/-
  The laws CommandDoes and CommandOnce, by value. Conditions: numbers are of their types.
-/
import Derived.Test.YtghfefkmmobmgaaK3
namespace Go.Proofs.Ytghfefkmmobmgaa.V
open Go.RowKit
attribute [local irreducible] Fn CallVC OpVC

def goneF (e : Int) (o : Ord) : Int × Bool := match decide (e = 0) && decide (o.op = 3) with
  | true => (o.id, true)
  | false => (0, false)
theorem gone_fn (V : List Vip) (B : List Back) (last : Int) (o : Ord) (ho : o.ok) (hG : Good V B) : Fn Try.prog 31 [stateD V B last, .agg (ordD o)] fun d => d = .tup [intD (goneF (doF V B last o).2 o).1, boolD (goneF (doF V B last o).2 o).2] := by
  refine fnOf [] Try.func31 rfl (by kernel_rfl) (Nat.le_of_ble_eq_true rfl) ?_
  have hdo := do_fn V B last o ho hG
  generalize doF V B last o = r at *
  obtain ⟨⟨⟨V', B'⟩, last'⟩, e⟩ := r
  dsimp only at *
  conv => whnf
  refine CallVC.pure hdo rfl ?_
  rintro _ rfl
  conv => whnf
  refine Fork.intro (fun h1 => ?_) (fun h1 => ?_)
  · have e1 : decide (e = 0) = false := by simpa using h1
    conv => whnf
    unfold goneF
    rw [e1]
    rfl
  · have e1 : decide (e = 0) = true := by simpa using h1
    conv => whnf
    refine Fork.intro (fun h2 => ?_) (fun h2 => ?_)
    · have e2 : decide (o.op = 3) = false := by simpa using h2
      conv => whnf
      unfold goneF
      rw [e1, e2]
      rfl
    · have e2 : decide (o.op = 3) = true := by simpa using h2
      conv => whnf
      unfold goneF
      rw [e1, e2]
      rfl

theorem cmd_lives (w : World) : Calls Try.prog 34 #[] w fun e w' => e = .returned (.bool true) ∧ Below w.heap.size w w' :=
  lives_of (steps := 100000) (d := 60) (by kernel_rfl) w
theorem clives_fn : Fn Try.prog 34 [] fun d => d = boolD true := by
  unfold Fn
  refine ⟨⟨_, Try.func34, rfl⟩, fun w B vs _ hr => ?_⟩
  have : vs = [] := List.eq_nil_of_length_eq_zero hr.1
  subst this
  exact (cmd_lives w).mono fun e w' ⟨h1, h2⟩ => ⟨_, _, rfl, h1, h2, .v⟩

theorem doF_last {V : List Vip} {B : List Back} {last : Int} {o : Ord} (h : (doF V B last o).2 = 0) : last < o.count ∧ (doF V B last o).1.2 = o.count := by
  unfold doF at *
  split at h
  · cases h
  · rename_i h1
    have h1 := of_decide_eq_false h1
    split at h
    · exact ⟨by omega, by first | rfl | (rename_i h2; simp only [h2])⟩
    · rename_i h2
      exact absurd h (of_decide_eq_false h2)
theorem doF_err {V : List Vip} {B : List Back} {last : Int} {o : Ord} (h : (doF V B last o).2 ≠ 0) : (doF V B last o).1 = ((V, B), last) := by
  unfold doF at *
  split
  · rfl
  · rename_i h1
    split
    · rename_i h2
      rw [h1, h2] at h
      exact absurd rfl h
    · rfl
theorem doF_old {V : List Vip} {B : List Back} {o : Ord} {last : Int} (h : o.count ≤ last) : (doF V B last o).2 = 13 := by
  unfold doF; rw [decide_eq_true h]

set_option maxHeartbeats 1000000 in
theorem commandDoes_fn (L : List Ord) (hL : ∀ x, x ∈ L → x.ok) : Fn Try.prog 7 [rowsO L] fun d => d = boolD true := by
  refine fnOf [(7, [1000]), (8, [1000]), (12, [1000])] Try.func7 rfl (by kernel_rfl) (Nat.le_of_ble_eq_true rfl) ?_
  conv => whnf
  refine ⟨Nat × (List Vip × List Back) × Int, fun p => ⟨[(6, intD p.1), (5, .v (.int .u64 p.2.2)), (4, .loc 1 0), (3, .loc 0 0), (0, rowsO L)], [(0, .cells 58 [rowsV p.2.1.1, rowsB p.2.1.2, .v (.int .u64 p.2.2)]), (1, .cells 29 [rowsV p.2.1.1, rowsB p.2.1.2])], 2, ([], 0)⟩,
    fun p => p.1 ≤ L.length ∧ p.1 ≤ 60 ∧ Good p.2.1.1 p.2.1.2, fun p => 60 - p.1, ⟨(0, ([], []), 0), [], [], ?_, Nat.zero_le _, by decide, good_nil⟩, ?_⟩
  · repeat' (first | exact trivial | exact .inl (DLe.refl _) | exact .inl (DLe.nil _ _) | (refine .inr ⟨rfl, _, ?_, rfl⟩; rfl) | exact rfl | exact Nat.zero_le _ | constructor)
  · rintro ⟨k, ⟨V, B⟩, last⟩ ⟨hk, hk6, hG⟩
    dsimp only at hk hk6 hG
    conv => whnf
    refine Fork.intro (fun h1 => ?_) (fun h1 => ?_)
    · have hlt : (k : Int) < L.length := of_decide_eq_true h1
      conv => whnf
      refine Fork.intro (fun h2 => ?_) (fun h2 => ?_)
      · have hlt2 : (k : Int) < 60 := of_decide_eq_true h2
        conv => whnf
        refine ⟨rfl, ⟨by omega, hlt⟩, fun o hx => ?_⟩
        have hxk : L[k]? = some o := by simpa using hx
        have ho := hL o (List.mem_of_getElem? hxk)
        have hdo := do_fn V B last o ho hG
        have hrdo := rdo_fn V B last o ho hG
        have hgo := gone_fn V B last o ho hG
        have hgood := doF_good (last := last) hG ho
        generalize doF V B last o = r at *
        obtain ⟨⟨⟨V', B'⟩, last'⟩, e⟩ := r
        dsimp only at hdo hrdo hgo hgood
        have hs1 := same_fn V' B' (by have := hgood.right.lv; omega) (by have := hgood.right.lb; omega)
        have hs2 := same_fn V B (by have := hG.right.lv; omega) (by have := hG.right.lb; omega)
        conv => whnf
        refine CallVC.pure hgo rfl ?_
        rintro _ rfl
        generalize hgf : goneF e o = gf at *
        obtain ⟨gi, gb⟩ := gf
        dsimp only
        conv => whnf
        refine ⟨⟨[(9, .loc 2 0), (10, intD e), (7, intD gi), (8, boolD gb), (6, intD k), (5, .v (.int .u64 last)), (4, .loc 1 0), (3, .loc 0 0), (0, rowsO L)], [(2, .cells 58 [rowsV V', rowsB B', .v (.int .u64 last')]), (0, .cells 58 [rowsV V, rowsB B, .v (.int .u64 last)]), (1, .cells 29 [rowsV V, rowsB B])], 3, ([], 0)⟩, ?_, ?_⟩
        · repeat' (first
            | exact trivial
            | (refine ⟨[], [], ?_⟩; (repeat' (first | exact trivial | exact .inl (DLe.refl _) | exact .inl (DLe.nil _ _) | (refine .inr ⟨rfl, _, ?_, rfl⟩; rfl) | exact rfl | exact Nat.zero_le _ | constructor)); done)
            | (refine ⟨rfl, ⟨by omega, hlt⟩, fun o' hx' => ?_⟩; obtain rfl : o = o' := by simpa using hx.symm.trans hx')
            | (refine CallVC.pure hdo rfl ?_; rintro _ rfl)
            | (refine And.intro ?_ ?_)
            | (conv => whnf))
        · conv => whnf
          refine ⟨⟨[(11, .loc 3 0), (12, .v (.int .u64 last')), (13, intD e), (9, .loc 2 0), (10, intD e), (7, intD gi), (8, boolD gb), (6, intD k), (5, .v (.int .u64 last)), (4, .loc 1 0), (3, .loc 0 0), (0, rowsO L)], [(3, .cells 29 [rowsV V', rowsB B']), (2, .cells 58 [rowsV V', rowsB B', .v (.int .u64 last')]), (0, .cells 58 [rowsV V, rowsB B, .v (.int .u64 last)]), (1, .cells 29 [rowsV V, rowsB B])], 4, ([], 0)⟩, ?_, ?_⟩
          · repeat' (first
              | exact trivial
              | (refine ⟨[], [], ?_⟩; (repeat' (first | exact trivial | exact .inl (DLe.refl _) | exact .inl (DLe.nil _ _) | (refine .inr ⟨rfl, _, ?_, rfl⟩; rfl) | exact rfl | exact Nat.zero_le _ | constructor)); done)
              | (refine ⟨rfl, ⟨by omega, hlt⟩, fun o' hx' => ?_⟩; obtain rfl : o = o' := by simpa using hx.symm.trans hx')
              | (refine CallVC.pure hrdo rfl ?_; rintro _ rfl)
              | (refine And.intro ?_ ?_)
              | (conv => whnf))
          · clear hdo hrdo hgo
            by_cases he : e = 0
            · subst he
              by_cases hop : o.op = 3
              · obtain ⟨rfl, rfl⟩ : gi = o.id ∧ gb = true := by
                  unfold goneF at hgf
                  rw [decide_eq_true hop] at hgf
                  have : (o.id, true) = (gi, gb) := hgf
                  injection this with h3 h4
                  exact ⟨h3.symm, h4.symm⟩
                conv => whnf
                repeat' (first
                  | (refine ⟨rfl, ⟨by omega, hlt⟩, fun o' hx' => ?_⟩; obtain rfl : o = o' := (by simpa using hx.symm.trans hx'); conv => whnf)
                  | (refine CallVC.pure hs1 rfl ?_; rintro _ rfl; conv => whnf)
                  | (refine CallVC.pure hs2 rfl ?_; rintro _ rfl; conv => whnf)
                  | (refine Fork.intro (fun hh => ?_) (fun _ => ?_); (focus (exfalso; revert hh; simp [hop]; done)); conv => whnf)
                  | (refine Fork.intro (fun _ => ?_) (fun hh => ?_); rotate_left; (focus (exfalso; revert hh; simp [hop]; done)); conv => whnf))
                refine ⟨⟨[(6, intD k), (5, .v (.int .u64 last')), (4, .loc 1 0), (3, .loc 0 0), (0, rowsO L)], [(0, .cells 58 [rowsV V', rowsB B', .v (.int .u64 last')]), (1, .cells 29 [rowsV V', rowsB B'])], 4, ([], 0)⟩, ?_, ?_⟩
                · repeat' (first | exact trivial | (refine ⟨[], [], ?_⟩; (repeat' (first | exact trivial | exact .inl (DLe.refl _) | exact .inl (DLe.nil _ _) | (refine .inr ⟨rfl, _, ?_, rfl⟩; rfl) | exact rfl | exact Nat.zero_le _ | constructor)); done) | (refine And.intro ?_ ?_) | (conv => whnf))
                · conv => whnf
                  rw [wrap_next (show k < 60 by omega) (by omega)]
                  refine ⟨(k + 1, (V', B'), last'), [], [], ?_, ⟨by show k + 1 ≤ _; omega, by show k + 1 ≤ 60; omega, hgood⟩, by show 60 - (k + 1) < 60 - k; omega⟩
                  repeat' (first | exact trivial | exact .inl (DLe.refl _) | exact .inl (DLe.nil _ _) | (refine .inr ⟨rfl, _, ?_, rfl⟩; rfl) | exact rfl | exact Nat.zero_le _ | constructor)
              · obtain ⟨rfl, rfl⟩ : gi = 0 ∧ gb = false := by
                  unfold goneF at hgf
                  rw [decide_eq_false hop] at hgf
                  have : ((0 : Int), false) = (gi, gb) := hgf
                  injection this with h3 h4
                  exact ⟨h3.symm, h4.symm⟩
                conv => whnf
                repeat' (first
                  | (refine ⟨rfl, ⟨by omega, hlt⟩, fun o' hx' => ?_⟩; obtain rfl : o = o' := (by simpa using hx.symm.trans hx'); conv => whnf)
                  | (refine CallVC.pure hs1 rfl ?_; rintro _ rfl; conv => whnf)
                  | (refine CallVC.pure hs2 rfl ?_; rintro _ rfl; conv => whnf)
                  | (refine Fork.intro (fun hh => ?_) (fun _ => ?_); (focus (exfalso; revert hh; simp [hop]; done)); conv => whnf)
                  | (refine Fork.intro (fun _ => ?_) (fun hh => ?_); rotate_left; (focus (exfalso; revert hh; simp [hop]; done)); conv => whnf))
                refine ⟨⟨[(6, intD k), (5, .v (.int .u64 last')), (4, .loc 1 0), (3, .loc 0 0), (0, rowsO L)], [(0, .cells 58 [rowsV V', rowsB B', .v (.int .u64 last')]), (1, .cells 29 [rowsV V', rowsB B'])], 4, ([], 0)⟩, ?_, ?_⟩
                · repeat' (first | exact trivial | (refine ⟨[], [], ?_⟩; (repeat' (first | exact trivial | exact .inl (DLe.refl _) | exact .inl (DLe.nil _ _) | (refine .inr ⟨rfl, _, ?_, rfl⟩; rfl) | exact rfl | exact Nat.zero_le _ | constructor)); done) | (refine And.intro ?_ ?_) | (conv => whnf))
                · conv => whnf
                  rw [wrap_next (show k < 60 by omega) (by omega)]
                  refine ⟨(k + 1, (V', B'), last'), [], [], ?_, ⟨by show k + 1 ≤ _; omega, by show k + 1 ≤ 60; omega, hgood⟩, by show 60 - (k + 1) < 60 - k; omega⟩
                  repeat' (first | exact trivial | exact .inl (DLe.refl _) | exact .inl (DLe.nil _ _) | (refine .inr ⟨rfl, _, ?_, rfl⟩; rfl) | exact rfl | exact Nat.zero_le _ | constructor)
            · obtain ⟨rfl, rfl⟩ : gi = 0 ∧ gb = false := by
                unfold goneF at hgf
                rw [decide_eq_false he] at hgf
                have : ((0 : Int), false) = (gi, gb) := hgf
                injection this with h3 h4
                exact ⟨h3.symm, h4.symm⟩
              conv => whnf
              repeat' (first
                | (refine ⟨rfl, ⟨by omega, hlt⟩, fun o' hx' => ?_⟩; obtain rfl : o = o' := (by simpa using hx.symm.trans hx'); conv => whnf)
                | (refine CallVC.pure hs1 rfl ?_; rintro _ rfl; conv => whnf)
                | (refine CallVC.pure hs2 rfl ?_; rintro _ rfl; conv => whnf)
                | (refine Fork.intro (fun hh => ?_) (fun _ => ?_); (focus (exfalso; revert hh; simp [he]; done)); conv => whnf)
                | (refine Fork.intro (fun _ => ?_) (fun hh => ?_); rotate_left; (focus (exfalso; revert hh; simp [he]; done)); conv => whnf))
              refine ⟨⟨[(6, intD k), (5, .v (.int .u64 last')), (4, .loc 1 0), (3, .loc 0 0), (0, rowsO L)], [(0, .cells 58 [rowsV V', rowsB B', .v (.int .u64 last')]), (1, .cells 29 [rowsV V', rowsB B'])], 4, ([], 0)⟩, ?_, ?_⟩
              · repeat' (first | exact trivial | (refine ⟨[], [], ?_⟩; (repeat' (first | exact trivial | exact .inl (DLe.refl _) | exact .inl (DLe.nil _ _) | (refine .inr ⟨rfl, _, ?_, rfl⟩; rfl) | exact rfl | exact Nat.zero_le _ | constructor)); done) | (refine And.intro ?_ ?_) | (conv => whnf))
              · conv => whnf
                rw [wrap_next (show k < 60 by omega) (by omega)]
                refine ⟨(k + 1, (V', B'), last'), [], [], ?_, ⟨by show k + 1 ≤ _; omega, by show k + 1 ≤ 60; omega, hgood⟩, by show 60 - (k + 1) < 60 - k; omega⟩
                repeat' (first | exact trivial | exact .inl (DLe.refl _) | exact .inl (DLe.nil _ _) | (refine .inr ⟨rfl, _, ?_, rfl⟩; rfl) | exact rfl | exact Nat.zero_le _ | constructor)
      · conv => whnf
        refine CallVC.pure clives_fn rfl ?_
        rintro _ rfl
        conv => whnf
    · conv => whnf
      refine CallVC.pure clives_fn rfl ?_
      rintro _ rfl
      conv => whnf
end Go.Proofs.Ytghfefkmmobmgaa.V
