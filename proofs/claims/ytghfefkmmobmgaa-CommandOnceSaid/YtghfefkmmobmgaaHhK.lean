/-
  The law CommandOnce, by value. Conditions: numbers are of their types.
-/
import Derived.Test.YtghfefkmmobmgaaHgK
namespace Go.Proofs.Ytghfefkmmobmgaa.V
open Go.RowKit
attribute [local irreducible] Fn CallVC OpVC

set_option maxHeartbeats 1000000 in
theorem commandOnce_fn (L : List Ord) (hL : ∀ x, x ∈ L → x.ok) : Fn Try.prog 9 [rowsO L] fun d => d = boolD true := by
  refine fnOf [(5, [1000]), (9, [1000])] Try.func9 rfl (by kernel_rfl) (Nat.le_of_ble_eq_true rfl) ?_
  conv => whnf
  refine ⟨Nat × (List Vip × List Back) × Int, fun p => ⟨[(4, intD p.1), (3, .loc 0 0), (0, rowsO L)], [(0, .cells 58 [rowsV p.2.1.1, rowsB p.2.1.2, .v (.int .u64 p.2.2)])], 1, ([], 0)⟩,
    fun p => p.1 ≤ L.length ∧ p.1 ≤ 60 ∧ Good p.2.1.1 p.2.1.2, fun p => 60 - p.1, ⟨(0, ([], []), 0), [], [], ?_, Nat.zero_le _, by decide, good_nil⟩, ?_⟩
  · repeat' (first | exact trivial | exact .inl (DLe.refl _) | exact .inl (DLe.nil _ _) | (refine .inr ⟨rfl, _, ?_, rfl⟩; rfl) | exact rfl | exact Nat.zero_le _ | constructor)
  · rintro ⟨k, ⟨V, B⟩, last⟩ ⟨hk, hk6, hG⟩
    dsimp only at hk hk6 hG
    conv => whnf
    refine Fork.intro (fun h1 => ?_) (fun h1 => ?_)
    · have hlt : (k : Int) < L.length := of_decide_eq_true h1
      conv => whnf
      refine Fork.intro (fun h2 => ?_) (fun h2 => ?_)
      · have hlt2 : (k : Int) < 60 := of_decide_eq_true h2
        clear h1 h2
        obtain ⟨o, hxk⟩ : ∃ o, L[k]? = some o := ⟨_, List.getElem?_eq_getElem (by omega)⟩
        have ho := hL o (List.mem_of_getElem? hxk)
        have hdo := do_fn V B last o ho hG
        have hgood := doF_good (last := last) hG ho
        have hlast := @doF_last V B last o
        have herr := @doF_err V B last o
        generalize doF V B last o = r at *
        obtain ⟨⟨⟨V', B'⟩, last'⟩, e⟩ := r
        dsimp only at hdo hgood hlast herr
        have hs := same_fn V B (by have := hG.right.lv; omega) (by have := hG.right.lb; omega)
        conv => whnf
        refine ⟨⟨[(5, .loc 1 0), (6, intD e), (4, intD k), (3, .loc 0 0), (0, rowsO L)], [(1, .cells 58 [rowsV V', rowsB B', .v (.int .u64 last')]), (0, .cells 58 [rowsV V, rowsB B, .v (.int .u64 last)])], 2, ([], 0)⟩, ?_, ?_⟩
        · repeat' (first
            | exact trivial
            | (refine ⟨[], [], ?_⟩; (repeat' (first | exact trivial | exact .inl (DLe.refl _) | exact .inl (DLe.nil _ _) | (refine .inr ⟨rfl, _, ?_, rfl⟩; rfl) | exact rfl | exact Nat.zero_le _ | constructor)); done)
            | (refine ⟨rfl, ⟨by omega, hlt⟩, fun o' hx' => ?_⟩; obtain rfl : o = o' := by simpa using hxk.symm.trans hx')
            | (refine CallVC.pure hdo rfl ?_; rintro _ rfl)
            | (refine And.intro ?_ ?_)
            | (conv => whnf))
        · clear hdo
          conv => whnf
          refine Fork.intro (fun h3 => ?_) (fun h3 => ?_)
          · have he : e = 0 := of_decide_eq_true h3
            obtain ⟨hl1, hl2⟩ := hlast he
            subst hl2
            have hdo2 := do_fn V' B' o.count o ho hgood
            have hold := doF_old (V := V') (B := B') (o := o) (Int.le_refl o.count)
            generalize doF V' B' o.count o = r2 at *
            obtain ⟨⟨⟨V2, B2⟩, last2⟩, e2⟩ := r2
            dsimp only at hdo2 hold
            subst hold
            conv => whnf
            refine Fork.intro (fun h4 => ?_) (fun h4 => ?_)
            · have := of_decide_eq_true h4; omega
            conv => whnf
            refine CallVC.pure (right_fn V' B' (by have := hgood.right.lv; omega) (by have := hgood.right.lb; omega) hgood.v hgood.b) rfl ?_
            rintro _ rfl
            rw [(right_iff hgood.v).2 hgood.right]
            conv => whnf
            refine ⟨⟨[(8, intD 13), (5, .loc 1 0), (4, intD k), (3, .loc 0 0), (0, rowsO L)], [(1, .cells 58 [rowsV V', rowsB B', .v (.int .u64 o.count)]), (0, .cells 58 [rowsV V, rowsB B, .v (.int .u64 last)])], 3, ([], 0)⟩, ?_, ?_⟩
            · repeat' (first
                | exact trivial
                | (refine ⟨[], [], ?_⟩; (repeat' (first | exact trivial | exact .inl (DLe.refl _) | exact .inl (DLe.nil _ _) | (refine .inr ⟨rfl, _, ?_, rfl⟩; rfl) | exact rfl | exact Nat.zero_le _ | constructor)); done)
                | (refine ⟨rfl, ⟨by omega, hlt⟩, fun o' hx' => ?_⟩; obtain rfl : o = o' := by simpa using hxk.symm.trans hx')
                | (refine CallVC.pure hdo2 rfl ?_; rintro _ rfl)
                | (refine And.intro ?_ ?_)
                | (conv => whnf))
            · conv => whnf
              rw [wrap_next (show k < 60 by omega) (by omega)]
              refine ⟨(k + 1, (V', B'), o.count), [], [], ?_, ⟨by show k + 1 ≤ _; omega, by show k + 1 ≤ 60; omega, hgood⟩, by show 60 - (k + 1) < 60 - k; omega⟩
              repeat' (first | exact trivial | exact .inl (DLe.refl _) | exact .inl (DLe.nil _ _) | (refine .inr ⟨rfl, _, ?_, rfl⟩; rfl) | exact rfl | exact Nat.zero_le _ | constructor)
          · have he : ¬ e = 0 := of_decide_eq_false h3
            obtain ⟨⟨rfl, rfl⟩, rfl⟩ : (V' = V ∧ B' = B) ∧ last' = last := by
              have h5 := herr he
              injection h5 with h6 h7
              injection h6 with h8 h9
              exact ⟨⟨h8, h9⟩, h7⟩
            conv => whnf
            refine Fork.intro (fun h4 => ?_) (fun h4 => ?_)
            · simp at h4
            conv => whnf
            refine CallVC.pure hs rfl ?_
            rintro _ rfl
            conv => whnf
            rw [wrap_next (show k < 60 by omega) (by omega)]
            refine ⟨(k + 1, (V', B'), last'), [], [], ?_, ⟨by show k + 1 ≤ _; omega, by show k + 1 ≤ 60; omega, hgood⟩, by show 60 - (k + 1) < 60 - k; omega⟩
            repeat' (first | exact trivial | exact .inl (DLe.refl _) | exact .inl (DLe.nil _ _) | (refine .inr ⟨rfl, _, ?_, rfl⟩; rfl) | exact rfl | exact Nat.zero_le _ | constructor)
      · conv => whnf
        refine CallVC.pure clives_fn rfl ?_
        rintro _ rfl
        conv => whnf
    · conv => whnf
      refine CallVC.pure clives_fn rfl ?_
      rintro _ rfl
      conv => whnf
end Go.Proofs.Ytghfefkmmobmgaa.V
