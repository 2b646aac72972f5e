/-
  The law FilterPrints by value, where lives is true. Conditions: numbers of their types.
-/
import Derived.Test.YtfghccppoilfhaaK9
import Derived.Test.YtfghccppoilfhaaK7
import Derived.Test.YtfghccppoilfhaaFpcK
namespace Go.Proofs.Ytfghccppoilfhaa.V
open Go.RowKit
attribute [local irreducible] Fn FnN FnR Ob ObR OpVC DLe

theorem text_len : ∀ t : FT, t.ok → t.text.length + 10 ≤ 40 * t.flat.length
  | .leaf x, h => by have := oneT_len h; show (oneT x).length + 10 ≤ 40 * 1; omega
  | .no t, h => by
    have := text_len t h
    show ([110, 111, 116, 32] ++ t.text).length + 10 ≤ 40 * (t.flat ++ [opSt 13]).length
    simp only [List.length_append, List.length_cons, List.length_nil]; omega
  | .an l r, h => by
    have := text_len l h.1
    have := text_len r h.2
    show ([40] ++ l.text ++ [32, 97, 110, 100, 32] ++ r.text ++ [41]).length + 10 ≤ 40 * (l.flat ++ (r.flat ++ [opSt 11])).length
    simp only [List.length_append, List.length_cons, List.length_nil]; omega
  | .or l r, h => by
    have := text_len l h.1
    have := text_len r h.2
    show ([40] ++ l.text ++ [32, 111, 114, 32] ++ r.text ++ [41]).length + 10 ≤ 40 * (l.flat ++ (r.flat ++ [opSt 12])).length
    simp only [List.length_append, List.length_cons, List.length_nil]; omega
theorem deep_len : ∀ t : FT, t.deep + 1 ≤ t.flat.length
  | .leaf x => Nat.le_refl _
  | .no t => by
    have := deep_len t
    show t.deep + 1 + 1 ≤ (t.flat ++ [opSt 13]).length
    simp only [List.length_append, List.length_cons, List.length_nil]; omega
  | .an l r => by
    have := deep_len l
    have := deep_len r
    show max l.deep r.deep + 1 + 1 ≤ (l.flat ++ (r.flat ++ [opSt 11])).length
    simp only [List.length_append, List.length_cons, List.length_nil]; omega
  | .or l r => by
    have := deep_len l
    have := deep_len r
    show max l.deep r.deep + 1 + 1 ≤ (l.flat ++ (r.flat ++ [opSt 12])).length
    simp only [List.length_append, List.length_cons, List.length_nil]; omega
theorem eqStepOk : eqOk Try.prog 38 [1, 1, 1] = true := by kernel_rfl
theorem eqD_self (x : FSt) : eqD (fstD x) (fstD x) = true := by
  obtain ⟨a, b, c⟩ := x
  simp [fstD, eqD]
theorem sameF_fn (f : List FSt) (hl : f.length ≤ 1000000) : Fn Try.prog 11 [rowsF f, rowsF f] fun d => d = boolD true := by
  refine fnOf [] Try.func11 rfl (by kernel_rfl) (Nat.le_of_ble_eq_true rfl) ?_
  have has := as_fn f hl
  conv => whnf
  (refine CallVC.pure (has) rfl ?_; rintro _ rfl; conv => whnf)
  refine Fork.intro (fun q1 => ?_) (fun q1 => ?_)
  · rw [decide_eq_true rfl] at q1; cases q1
  clear q1
  conv => whnf
  refine ⟨Nat, fun k => ⟨[(6, intD k), (5, rowsF f), (1, rowsF f)], [], 0, ([], 0)⟩, fun k => k ≤ f.length, fun k => f.length - k, ⟨0, [], [], ?_, Nat.zero_le _⟩, ?_⟩
  · repeat' (first | exact trivial | exact .inl (DLe.refl _) | exact .inl (DLe.nil _ _) | (refine .inr ⟨rfl, _, ?_, rfl⟩; rfl) | exact rfl | exact .inl rfl | exact .inr ⟨rfl, rfl, rfl, rfl⟩ | exact Nat.zero_le _ | constructor)
  intro k hk
  replace hk : k ≤ f.length := hk
  have e0 := wrapN (n := k) (by omega)
  conv => whnf
  refine Fork.intro (fun q => ?_) (fun q => ?_)
  · have q : k < f.length := by have := of_decide_eq_true q; omega
    obtain ⟨x, hx⟩ : ∃ x, f[k]? = some x := ⟨_, List.getElem?_eq_getElem q⟩
    conv => whnf
    refine ⟨rfl, ⟨by omega, by omega⟩, fun y hy => ?_⟩
    obtain rfl : x = y := Option.some.inj (hx.symm.trans hy)
    conv => whnf
    refine ⟨rfl, ⟨by omega, by omega⟩, fun y hy => ?_⟩
    obtain rfl : x = y := Option.some.inj (hx.symm.trans hy)
    conv => whnf
    refine ⟨eqStepOk, rfl, ?_⟩
    conv => whnf
    refine Fork.intro ?_ ?_
    · intro q2
      exact absurd ((congrArg (!·) (eqD_self x)).symm.trans q2) Bool.noConfusion
    intro _
    conv => whnf
    rw [e0]
    refine ⟨k + 1, [], [], ?_, by show k + 1 ≤ f.length; omega, by show f.length - (k + 1) < f.length - k; omega⟩
    repeat' (first | exact trivial | exact .inl (DLe.refl _) | exact .inl (DLe.nil _ _) | (refine .inr ⟨rfl, _, ?_, rfl⟩; rfl) | exact rfl | exact .inl rfl | exact .inr ⟨rfl, rfl, rfl, rfl⟩ | exact Nat.zero_le _ | constructor)
  · conv => whnf
set_option maxHeartbeats 4000000 in
theorem filterPrints_fn (hlv : Fn Try.prog 7 [] fun d => d = boolD true) (f : List FSt) (hf : stepsOk f) : Fn Try.prog 3 [rowsF f] fun d => d = boolD true := by
  refine fnOf [] Try.func3 rfl (by kernel_rfl) (Nat.le_of_ble_eq_true rfl) ?_
  have go : ∀ x : List FSt, x = f.take 110 → stepsOk x ∧ x.length ≤ 110 := fun x hx => ⟨fun y hy => hf y (by rw [hx] at hy; exact List.mem_of_mem_take hy), by rw [hx, List.length_take]; omega⟩
  conv => whnf
  refine Fork.intro (fun q1 => ?_) (fun q1 => ?_)
  · conv => whnf
    refine ⟨rfl, ⟨by omega, by decide, by have := of_decide_eq_true q1; omega⟩, ?_⟩
    conv => whnf
    obtain ⟨g1, g2⟩ := go ((f.take (Int.toNat 110)).drop (Int.toNat 0)) rfl
    generalize (f.take (Int.toNat 110)).drop (Int.toNat 0) = g at *
    clear go q1 hf
    have hrr := rRight_fn g (by omega)
    have has := as_fn g (by omega)
    conv => whnf
    (refine CallVC.pure (has) rfl ?_; rintro _ rfl; conv => whnf)
    (refine CallVC.pure (hrr) rfl ?_; rintro _ rfl; conv => whnf)
    cases hright : rightF g with
    | false =>
      have hpr := print0_fn g hright
      conv => whnf
      (refine CallVC.pure (hpr) rfl ?_; rintro _ rfl; conv => whnf)
      rw [show ((strB []).toList == (ByteArray.mk #[]).toList) = true from beq_self_eq_true _]
      conv => whnf
      (refine CallVC.pure (hlv) rfl ?_; rintro _ rfl; conv => whnf)
    | true =>
      obtain ⟨t, ht, hto⟩ := tree_of hright
      have hlen : t.flat.length ≤ 110 := by rw [← ht]; exact g2
      have htx := text_len t hto
      have hdl := deep_len t
      have hpp := printP_fn g t ht hto hright g1
      have hpd := print45_fn t hto g [] [] (by rw [ht]; simp) (by omega) g1 (by omega) ((g.length : Int) - 1) (by rw [ht]; simp)
      have hdd := deep45_fn t hto g [] [] (by rw [ht]; simp) (by omega) g1 (by omega) ((g.length : Int) - 1) (by rw [ht]; simp)
      have e1 : IntKind.i64.wrap ((g.length : Int) - 1) = (g.length : Int) - 1 := IntWalk.i64_in _ (by omega)
      conv => whnf
      (refine CallVC.pure (hpp) rfl ?_; rintro _ rfl; conv => whnf)
      rw [e1]
      (refine CallVC.pure (hpd) rfl ?_; rintro _ rfl; conv => whnf)
      rw [show ((strB t.text).toList == (strB t.text).toList) = true from beq_self_eq_true _]
      conv => whnf
      have hsz := strB_size t.text
      refine Fork.intro (fun q3 => ?_) (fun q3 => ?_)
      · conv => whnf
        (refine CallVC.pure (hlv) rfl ?_; rintro _ rfl; conv => whnf)
      conv => whnf
      rw [e1]
      (refine CallVC.pure (hdd) rfl ?_; rintro _ rfl; conv => whnf)
      refine Fork.intro (fun q4 => ?_) (fun q4 => ?_)
      · conv => whnf
        (refine CallVC.pure (hlv) rfl ?_; rintro _ rfl; conv => whnf)
      have hfr : t.flat.length ≤ 100 := by
        rw [← ht]
        unfold rightF at hright
        simp only [Bool.and_eq_true, decide_eq_true_eq] at hright
        exact hright.1.2
      have hpa := parseF_fn t hto (by rw [← ht]; exact g1) hfr (by have := of_decide_eq_false q4; omega) (by have := of_decide_eq_false q3; omega)
      have hsm := sameF_fn g (by omega)
      rw [← ht] at hpa
      conv => whnf
      (refine CallVC.pure (hpa) rfl ?_; rintro _ rfl; conv => whnf)
      (refine CallVC.pure (hsm) rfl ?_; rintro _ rfl; conv => whnf)
      (refine CallVC.pure (hlv) rfl ?_; rintro _ rfl; conv => whnf)
  · have q1 : f.length ≤ 110 := by have := of_decide_eq_false q1; omega
    obtain ⟨g1, g2⟩ := go f (List.take_of_length_le q1).symm
    obtain ⟨g, rfl⟩ : ∃ g, g = f := ⟨f, rfl⟩
    have hrr := rRight_fn g (by omega)
    have has := as_fn g (by omega)
    conv => whnf
    (refine CallVC.pure (has) rfl ?_; rintro _ rfl; conv => whnf)
    (refine CallVC.pure (hrr) rfl ?_; rintro _ rfl; conv => whnf)
    cases hright : rightF g with
    | false =>
      have hpr := print0_fn g hright
      conv => whnf
      (refine CallVC.pure (hpr) rfl ?_; rintro _ rfl; conv => whnf)
      rw [show ((strB []).toList == (ByteArray.mk #[]).toList) = true from beq_self_eq_true _]
      conv => whnf
      (refine CallVC.pure (hlv) rfl ?_; rintro _ rfl; conv => whnf)
    | true =>
      obtain ⟨t, ht, hto⟩ := tree_of hright
      have hlen : t.flat.length ≤ 110 := by rw [← ht]; exact g2
      have htx := text_len t hto
      have hdl := deep_len t
      have hpp := printP_fn g t ht hto hright g1
      have hpd := print45_fn t hto g [] [] (by rw [ht]; simp) (by omega) g1 (by omega) ((g.length : Int) - 1) (by rw [ht]; simp)
      have hdd := deep45_fn t hto g [] [] (by rw [ht]; simp) (by omega) g1 (by omega) ((g.length : Int) - 1) (by rw [ht]; simp)
      have e1 : IntKind.i64.wrap ((g.length : Int) - 1) = (g.length : Int) - 1 := IntWalk.i64_in _ (by omega)
      conv => whnf
      (refine CallVC.pure (hpp) rfl ?_; rintro _ rfl; conv => whnf)
      rw [e1]
      (refine CallVC.pure (hpd) rfl ?_; rintro _ rfl; conv => whnf)
      rw [show ((strB t.text).toList == (strB t.text).toList) = true from beq_self_eq_true _]
      conv => whnf
      have hsz := strB_size t.text
      refine Fork.intro (fun q3 => ?_) (fun q3 => ?_)
      · conv => whnf
        (refine CallVC.pure (hlv) rfl ?_; rintro _ rfl; conv => whnf)
      conv => whnf
      rw [e1]
      (refine CallVC.pure (hdd) rfl ?_; rintro _ rfl; conv => whnf)
      refine Fork.intro (fun q4 => ?_) (fun q4 => ?_)
      · conv => whnf
        (refine CallVC.pure (hlv) rfl ?_; rintro _ rfl; conv => whnf)
      have hfr : t.flat.length ≤ 100 := by
        rw [← ht]
        unfold rightF at hright
        simp only [Bool.and_eq_true, decide_eq_true_eq] at hright
        exact hright.1.2
      have hpa := parseF_fn t hto (by rw [← ht]; exact g1) hfr (by have := of_decide_eq_false q4; omega) (by have := of_decide_eq_false q3; omega)
      have hsm := sameF_fn g (by omega)
      rw [← ht] at hpa
      conv => whnf
      (refine CallVC.pure (hpa) rfl ?_; rintro _ rfl; conv => whnf)
      (refine CallVC.pure (hsm) rfl ?_; rintro _ rfl; conv => whnf)
      (refine CallVC.pure (hlv) rfl ?_; rintro _ rfl; conv => whnf)
end Go.Proofs.Ytfghccppoilfhaa.V
