/-
  The example of the laws of slots, by value. No condition.
-/
import Derived.Test.YtcbpdjikdohegaaYq
namespace Go.Proofs.Ytcbpdjikdohegaa.V
open Go.RowKit
attribute [local irreducible] Fn FnN OpVC Ob ObS NewS

theorem home1 (lo hi : Int) (f : Fl) : homeN lo hi 1 f = 0 := by
  have := homeN_lt lo hi (N := 1) (by decide) f
  omega
def flN (n : Int) : Fl := ⟨n, 0, 0, 0, 0⟩
theorem flN_ok {n : Int} (h : 0 ≤ n ∧ n < 100) : FlOk (flN n) := ⟨⟨h.1, by show n < _; omega⟩, ⟨Int.le_refl _, by show (0 : Int) < _; decide⟩, ⟨Int.le_refl _, by show (0 : Int) < _; decide⟩, ⟨Int.le_refl _, by show (0 : Int) < _; decide⟩, ⟨Int.le_refl _, by show (0 : Int) < _; decide⟩⟩
theorem hasB {f : FuncId} (h : (Try.prog.funcs[f]?).any (fun fn => fn.body.isSome) = true) : hasBody Try.prog f := by
  cases hq : Try.prog.funcs[f]? with
  | none => rw [hq] at h; cases h
  | some fn => rw [hq] at h; exact ⟨fn, hq, h⟩

set_option maxHeartbeats 4000000 in
theorem lives_fn : Fn Try.prog 19 [] fun d => d = boolD true := by
  refine fnOf [] Try.func19 rfl (by kernel_rfl) (Nat.le_of_ble_eq_true rfl) ?_
  have hn := SRel.new 0 0 1
  rw [show List.replicate (slN 1) sl0 = [sl0] from rfl] at hn
  have ha := flN_ok (n := 1) (by decide)
  have hb := flN_ok (n := 2) (by decide)
  have q1 : fnd [sl0] (flN 1) (homeN 0 0 [sl0].length (flN 1)) [sl0].length 0 = (0, 1, false) := by
    rw [show [sl0].length = 1 from rfl, home1]; rfl
  have p1 : slPut 0 0 [sl0] 0 (flN 1) 7 = (0, [⟨flN 1, 7, true⟩], 1) := by unfold slPut; rw [q1]; rfl
  have i1 : InsAt (flN 1) [] 0 := ⟨Nat.le_refl _, fun m u h => by omega, fun u h => by cases h⟩
  have h1 : SRel 0 0 (slN 1) [⟨flN 1, 7, true⟩] 1 [enP (flN 1) 7] := hn.put (v := 7) ha q1 (by decide) i1
  have q2 : fnd [⟨flN 1, 7, true⟩] (flN 2) (homeN 0 0 [(⟨flN 1, 7, true⟩ : Sl)].length (flN 2)) [(⟨flN 1, 7, true⟩ : Sl)].length 0 = (0, 1, false) := by
    rw [show [(⟨flN 1, 7, true⟩ : Sl)].length = 1 from rfl, home1]; rfl
  have p2 : slPut 0 0 [⟨flN 1, 7, true⟩] 1 (flN 2) 8 = (7, [⟨flN 1, 7, true⟩], 1) := by unfold slPut; rw [q2]; rfl
  have q3 : fnd [⟨flN 1, 7, true⟩] (flN 1) (homeN 0 0 [(⟨flN 1, 7, true⟩ : Sl)].length (flN 1)) [(⟨flN 1, 7, true⟩ : Sl)].length 0 = (0, 1, true) := by
    rw [show [(⟨flN 1, 7, true⟩ : Sl)].length = 1 from rfl, home1]; rfl
  have p3 : slPut 0 0 [⟨flN 1, 7, true⟩] 1 (flN 1) 9 = (9, [⟨flN 1, 7, true⟩], 1) := by unfold slPut; rw [q3]
  have g1 := get_fn 0 0 [⟨flN 1, 7, true⟩] 1 h1.ok ha
  rw [q3] at g1
  have d1 := drop_obs 0 0 [⟨flN 1, 7, true⟩] 1 h1.ok ha
  rw [q3] at d1
  conv => whnf
  refine CallVC.news (new_new 0 0 1) rfl ?_
  rintro _ S0 rfl
  rw [show List.replicate (slN 1) sl0 = [sl0] from rfl]
  conv => whnf
  refine CallVC.obs (put_obs 0 0 [sl0] 0 hn.ok ha 7) rfl rfl ?_
  rintro _ _ S1 ⟨rfl, rfl⟩
  rw [p1]
  conv => whnf
  refine CallVC.obs (put_obs 0 0 [⟨flN 1, 7, true⟩] 1 h1.ok hb 8) rfl rfl ?_
  rintro _ _ S2 ⟨rfl, rfl⟩
  rw [p2]
  conv => whnf
  refine CallVC.obs (put_obs 0 0 [⟨flN 1, 7, true⟩] 1 h1.ok ha 9) rfl rfl ?_
  rintro _ _ S3 ⟨rfl, rfl⟩
  rw [p3]
  conv => whnf
  refine CallVC.look (sl_look g1 (hasB (by kernel_rfl))) rfl ?_
  rintro _ rfl
  conv => whnf
  refine CallVC.obs d1 rfl rfl ?_
  rintro _ _ S4 ⟨rfl, L', rfl, ok', hl', hp'⟩
  have he : ents L' = [] := List.eq_nil_of_length_eq_zero ok'.cnt.symm
  have d2 := drop_obs 0 0 L' 0 ok' ha
  cases hq : fnd L' (flN 1) (homeN 0 0 L'.length (flN 1)) L'.length 0 with
  | mk p q =>
  obtain ⟨m, b⟩ := q
  rw [hq] at d2
  cases b with
  | true =>
    obtain ⟨x1, x2, _⟩ := find_is ok'.ok.pos hq
    have : at_ L' p ∈ ents L' := mem_ents.2 ⟨p, x1, x2, rfl⟩
    rw [he] at this
    cases this
  | false =>
    conv => whnf
    refine CallVC.obs d2 rfl rfl ?_
    rintro _ _ S5 ⟨rfl, rfl⟩
    conv => whnf
    refine CallVC.look (sl_look (len_fn 0 0 L' 0) (hasB (by kernel_rfl))) rfl ?_
    rintro _ rfl
    conv => whnf
    rfl
end Go.Proofs.Ytcbpdjikdohegaa.V
