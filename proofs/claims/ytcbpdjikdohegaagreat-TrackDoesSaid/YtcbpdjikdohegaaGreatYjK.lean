/-
  Slots: putting and dropping, by value, as clusters. Conditions: slots stand right.
-/
import Derived.Test.YtcbpdjikdohegaaGreatYiK
namespace Go.Proofs.YtcbpdjikdohegaaGreat.V
open Go.RowKit
attribute [local irreducible] Fn FnN OpVC Ob ObS NewS

abbrev slA (lo hi : Int) (L : List Sl) (n : Nat) : SepA := sepOf (slF lo hi L n)
theorem obsOf {f : FuncId} {fn : Func} {c : Code} {A : Fam} {rest : List D} {Q : D → SepA → Prop} (pl : Plans) (hfn : Tryz.prog.funcs[f]? = some fn) (hc : fn.body = some c) (hok : codeOk pl fn.ntmps c = true) (hn : rest.length + 1 ≤ fn.ntmps)
    (h : ∀ H nx, A H nx → wpc Tryz.prog tt pl c ⟨enumD (.loc 0 0 :: rest) 0, H, nx, ([0], 1)⟩ fun e s' => endK e (resK tt s' fn.results.toList fun l => seeD (oneD l) fun d => sepEnd s' d fun d A' => Q d (sepOf A'))) : ObS Tryz.prog f (sepOf A) rest Q :=
  obs_of_wpc ttH ebH mxH hfn hc hok hn h
theorem newOf {f : FuncId} {fn : Func} {c : Code} {args : List D} {Q : SepA → Prop} (pl : Plans) (hfn : Tryz.prog.funcs[f]? = some fn) (hc : fn.body = some c) (hok : codeOk pl fn.ntmps c = true) (h0 : 0 < fn.ntmps) (hn : args.length ≤ fn.ntmps)
    (h : wpc Tryz.prog tt pl c ⟨enumD args 0, [], 0, ([], 0)⟩ fun e s => endK e (resK tt s fn.results.toList fun l => seeD (oneD l) fun d => newEnd s d fun A' => Q (sepOf A'))) : NewS Tryz.prog f args Q :=
  new_of_wpc ttH ebH mxH hfn hc hok h0 hn h

def slPut (lo hi : Int) (L : List Sl) (n : Nat) (f : Fl) (v : Int) : Int × List Sl × Nat := match fnd L f (homeN lo hi L.length f) L.length 0 with
  | (_, _, true) => (9, L, n)
  | (p, _, false) => match decide ((n : Int) = L.length) with
    | true => (7, L, n)
    | false => (0, L.set p ⟨f, v, true⟩, n + 1)

theorem put_obs (lo hi : Int) (L : List Sl) (n : Nat) (hs : SlOk lo hi L n) {f : Fl} (hf : FlOk f) (v : Int) :
    ObS Tryz.prog 30 (slA lo hi L n) [.agg (flD f), intD v] fun d A' => d = intD (slPut lo hi L n f v).1 ∧ A' = slA lo hi (slPut lo hi L n f v).2.1 (slPut lo hi L n f v).2.2 := by
  refine obsOf [] Tryz.func30 rfl (by kernel_rfl) (Nat.le_of_ble_eq_true rfl) ?_
  rintro _ _ ⟨rfl, rfl⟩
  have hL : 0 < L.length ∧ L.length ≤ 256 := ⟨hs.ok.pos, hs.le⟩
  have hnl : n ≤ L.length := by rw [hs.cnt]; exact List.length_filter_le _ _
  unfold slPut
  conv => whnf
  refine CallVC.look (find_fn lo hi L n hL hf) rfl ?_
  rintro _ rfl
  cases hq : fnd L f (homeN lo hi L.length f) L.length 0 with
  | mk p q =>
  obtain ⟨m, b⟩ := q
  have hp : p < L.length := by
    cases b with
    | true => exact (find_is hL.1 hq).1
    | false => exact (find_not hL.1 hq).1
  cases b with
  | true =>
    dsimp only
    conv => whnf
    refine ⟨[], [], intD 9, slH lo hi L n, [], 2, ?_, rfl, slF lo hi L n, ⟨rfl, rfl⟩, rfl, rfl⟩
    repeat' (first | exact trivial | exact .inl (DLe.refl _) | exact .inl (DLe.nil _ _) | (refine .inr ⟨rfl, _, ?_, rfl⟩; rfl) | exact rfl | exact Nat.zero_le _ | constructor)
  | false =>
    dsimp only
    conv => whnf
    cases g1 : decide ((n : Int) = L.length) with
    | true =>
      conv => whnf
      refine ⟨[], [], intD 7, slH lo hi L n, [], 2, ?_, rfl, slF lo hi L n, ⟨rfl, rfl⟩, rfl, rfl⟩
      repeat' (first | exact trivial | exact .inl (DLe.refl _) | exact .inl (DLe.nil _ _) | (refine .inr ⟨rfl, _, ?_, rfl⟩; rfl) | exact rfl | exact Nat.zero_le _ | constructor)
    | false =>
      conv => whnf
      refine ⟨rfl, ⟨by omega, by omega⟩, ?_⟩
      conv => whnf
      refine ⟨rfl, hp, fun x hx => ?_⟩
      conv => whnf
      refine ⟨rfl, ⟨f, v, true⟩, rfl, ?_⟩
      conv => whnf
      rw [wrap_next (show n < 300 by omega) (by omega)]
      refine ⟨[], [], intD 0, slH lo hi (L.set p ⟨f, v, true⟩) (n + 1), [], 2, ?_, rfl, slF lo hi (L.set p ⟨f, v, true⟩) (n + 1), ⟨rfl, rfl⟩, rfl, rfl⟩
      repeat' (first | exact trivial | exact .inl (DLe.refl _) | exact .inl (DLe.nil _ _) | (refine .inr ⟨rfl, _, ?_, rfl⟩; rfl) | exact rfl | exact Nat.zero_le _ | constructor)
end Go.Proofs.YtcbpdjikdohegaaGreat.V
