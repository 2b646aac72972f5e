/-
  The laws PlanLines and PlanTexts by value. Conditions: numbers of their types, a text of bytes.
-/
import Derived.Test.YtooaeccmkgockaaGreatDoorJoK
namespace Go.Proofs.YtooaeccmkgockaaGreatDoor.V
open Go.RowKit
attribute [local irreducible] Fn FnN OpVC DLe

theorem neg_no {b : Bool} (h : b = true) (g : (!b) = true) : False := by rw [h] at g; cases g
theorem shortL_fn (l : List Nat) (n : Nat) : Fn Tryz.prog 6 [strD l, intD n] fun d => d = strD (l.take n) := by
  refine fnOf [] Tryz.func6 rfl (by kernel_rfl) (Nat.le_of_ble_eq_true rfl) ?_
  have hsz : ((strB l).size : Int) = (l.length : Int) := by rw [strB_size]
  conv => whnf
  refine Fork.intro (fun h => ?_) (fun h => ?_)
  · have h := of_decide_eq_true h
    conv => whnf
    refine ⟨⟨by decide, by omega, by omega⟩, ?_⟩
    rw [strB_extract]
    conv => whnf
    exact congrArg (fun l => strD l) (by simp)
  · have h := of_decide_eq_false h
    rw [List.take_of_length_le (by omega)]
    conv => whnf

/-! ### Lives -/
abbrev liveO1 : Ord := ⟨0, 1, 1, 0, 167772240, 80, 6, 1⟩
abbrev liveO2 : Ord := ⟨0, 2, 4, 1, 167837700, 0, 0, 2⟩
abbrev liveL1 : List Nat := [118, 105, 112, 32, 49, 32, 49, 48, 46, 48, 46, 48, 46, 56, 48, 58, 56, 48, 32, 116, 99, 112, 32, 100, 105, 114, 101, 99, 116]
abbrev liveL2 : List Nat := [98, 97, 99, 107, 101, 110, 100, 32, 52, 32, 49, 32, 49, 48, 46, 49, 46, 48, 46, 52, 32, 119, 101, 105, 103, 104, 116, 32, 50]
theorem live_ok1 : liveO1.ok := ⟨by decide, by decide, by decide, by decide, by decide, by decide, by decide⟩
theorem live_ok2 : liveO2.ok := ⟨by decide, by decide, by decide, by decide, by decide, by decide, by decide⟩
theorem live_read1 : pRead liveL1 = (liveO1, 0) := by
  have h : MayO liveO1 := by decide
  have e : lineO liveO1 = liveL1 := by
    rw [lineO_may h]
    show wVip ++ 32 :: (dgs 1 ++ 32 :: ((txt 167772240 ++ 58 :: dgs 80) ++ 32 :: (wTcp ++ 32 :: wDirect))) = _
    rw [dgs_dig (by decide), dgs_dig (by decide)]
    decide +kernel
  rw [← e]
  exact pRead_line h live_ok1
theorem live_read2 : pRead liveL2 = (liveO2, 0) := by
  have h : MayO liveO2 := by decide
  have e : lineO liveO2 = liveL2 := by
    rw [lineO_may h]
    show wBackend ++ 32 :: (dgs 4 ++ 32 :: (dgs 1 ++ 32 :: (txt 167837700 ++ 32 :: (wWeight ++ 32 :: dgs 2)))) = _
    rw [dgs_dig (by decide), dgs_dig (by decide), dgs_dig (by decide)]
    decide +kernel
  rw [← e]
  exact pRead_line h live_ok2
theorem live_load : ∃ v b, loadT (liveL1 ++ 10 :: (liveL2 ++ [10])) = (([v], [b]), 0) := by
  have hp : parseT (liveL1 ++ 10 :: (liveL2 ++ [10])) = ([{ liveO1 with count := 1 }, { liveO2 with count := 2 }], 0, 0) := by
    rw [parseT_fit (by decide)]
    have hs : spl 10 (liveL1 ++ 10 :: (liveL2 ++ [10])) = [liveL1, liveL2, []] := by decide
    rw [hs]
    simp only [pLines, live_read1, live_read2]
    rfl
  unfold loadT
  rw [hp]
  refine ⟨⟨1, 167772240, 80, 6, 1⟩, ⟨4, 1, 167837700, 2, 1, false⟩, ?_⟩
  rfl
set_option maxRecDepth 100000 in
theorem livesL_fn : Fn Tryz.prog 12 [] fun d => d = boolD true := by
  refine fnOf [] Tryz.func12 rfl (by kernel_rfl) (Nat.le_of_ble_eq_true rfl) ?_
  have h1 := pread_fn liveL1 (byt_of rfl) (by decide)
  rw [live_read1] at h1
  obtain ⟨v, b, hl⟩ := live_load
  have h2 := load_fn (liveL1 ++ 10 :: (liveL2 ++ [10])) (byt_of rfl) (by decide)
  rw [hl] at h2
  conv => whnf
  refine CallVC.pure h1 rfl ?_
  rintro _ rfl
  conv => whnf
  refine CallVC.pure h2 rfl ?_
  rintro _ rfl
  conv => whnf
  refine ⟨eqOrdOk, rfl, ?_⟩
  conv => whnf
  rfl

set_option maxHeartbeats 1000000 in
theorem planTexts_fn (s : List Nat) (hs : Byt s) : Fn Tryz.prog 4 [strD s] fun d => d = boolD true := by
  refine fnOf [] Tryz.func4 rfl (by kernel_rfl) (Nat.le_of_ble_eq_true rfl) ?_
  have hsh := shortL_fn s 4010
  have hsb := hs.take 4010
  have hsl : (s.take 4010).length ≤ 4010 := by rw [List.length_take]; omega
  generalize s.take 4010 = t at *
  have h1 := parse_fnP t hsb (by omega)
  have h2 := rparse_fnP t hsb (by omega)
  have h3 := load_fn t hsb (by omega)
  have h4 := rload_fn t hsb (by omega)
  have hG := loadT_good t (by omega)
  have hpl := (parseT_ok t (by omega)).2
  generalize parseT t = r at *
  obtain ⟨L, at_, e⟩ := r
  generalize loadT t = R at *
  obtain ⟨⟨V, B⟩, e2⟩ := R
  dsimp only at *
  have h5 := same_fn V B (by have := hG.right.lv; omega) (by have := hG.right.lb; omega)
  have eqs : ∀ a : Ord, eqD (ordD a) (ordD a) = true := fun a => by rw [eqD_ord, decide_eq_true rfl]
  conv => whnf
  refine CallVC.pure hsh rfl ?_
  rintro _ rfl
  conv => whnf
  refine CallVC.pure h1 rfl ?_
  rintro _ rfl
  conv => whnf
  refine CallVC.pure h2 rfl ?_
  rintro _ rfl
  conv => whnf
  refine Fork.intro (fun g => absurd rfl ((not_dec g).1 rfl)) (fun _ => ?_)
  conv => whnf
  refine Fork.intro (fun g => absurd rfl ((not_dec g).1 rfl)) (fun _ => ?_)
  conv => whnf
  refine Fork.intro (fun g => absurd rfl ((not_dec g).1 rfl)) (fun _ => ?_)
  conv => whnf
  refine ⟨Nat, fun k => ⟨[(9, intD k), (6, rowsO L), (3, rowsO L), (0, strD t)], [], 0, ([], 0)⟩, fun k => k ≤ L.length, fun k => L.length - k, ⟨0, [], [], ?_, Nat.zero_le _⟩, ?_⟩
  · repeat' (first | exact trivial | exact .inl (DLe.refl _) | exact .inl (DLe.nil _ _) | (refine .inr ⟨rfl, _, ?_, rfl⟩; rfl) | exact rfl | exact Nat.zero_le _ | constructor)
  · intro k hk
    replace hk : k ≤ L.length := hk
    have e0 : IntKind.i64.wrap ((k : Int) + 1) = ((k + 1 : Nat) : Int) := wrap_next (n := 100002) (by omega) (by decide)
    conv => whnf
    refine Fork.intro (fun g => ?_) (fun g => ?_)
    · have g := of_decide_eq_true g
      conv => whnf
      refine ⟨rfl, ⟨by omega, g⟩, fun x hx => ?_⟩
      conv => whnf
      refine ⟨rfl, ⟨by omega, g⟩, fun y hy => ?_⟩
      obtain rfl : x = y := Option.some.inj (hx.symm.trans hy)
      have ex := eqs x
      conv => whnf
      refine ⟨eqOrdOk, rfl, ?_⟩
      conv => whnf
      refine Fork.intro (fun g2 => (neg_no ex g2).elim) (fun _ => ?_)
      conv => whnf
      rw [e0]
      refine ⟨k + 1, [], [], ?_, by show k + 1 ≤ L.length; omega, by show L.length - (k + 1) < L.length - k; omega⟩
      repeat' (first | exact trivial | exact .inl (DLe.refl _) | exact .inl (DLe.nil _ _) | (refine .inr ⟨rfl, _, ?_, rfl⟩; rfl) | exact rfl | exact Nat.zero_le _ | constructor)
    · conv => whnf
      refine CallVC.pure h3 rfl ?_
      rintro _ rfl
      conv => whnf
      refine CallVC.pure h4 rfl ?_
      rintro _ rfl
      conv => whnf
      refine CallVC.pure h5 rfl ?_
      rintro _ rfl
      conv => whnf
      refine Fork.intro (fun _ => ?_) (fun g => absurd rfl (of_decide_eq_false g))
      conv => whnf
      refine CallVC.pure livesL_fn rfl ?_
      rintro _ rfl
      conv => whnf
end Go.Proofs.YtooaeccmkgockaaGreatDoor.V
