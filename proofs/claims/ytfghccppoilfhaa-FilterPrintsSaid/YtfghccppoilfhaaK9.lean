/-
  A reader of words, by value: what is read of the text of a filter. Conditions: texts as they are printed, not too deep.
  What is read of the text of a filter, by value. Conditions: texts as they are printed, not too deep.
  A fact is read back: the text of a tree is read as its steps. Conditions: texts as they are printed, not too deep.
  A fact is read back whole: the text of a tree is read as its steps. Conditions: texts as they are printed, not too deep.
  The program's Parse on the text of a tree, by value. Conditions: texts that are short, trees that aren't deep.
-/
import Derived.Test.YtfghccppoilfhaaK8
import Derived.Test.YtfghccppoilfhaaVorK
namespace Go.Proofs.Ytfghccppoilfhaa.V
open Go.RowKit
attribute [local irreducible] Fn FnN FnR Ob ObR OpVC DLe

theorem litF {a b : List Nat} (h : (!(decide (a = b)) && a.all (fun c => decide (c < 256)) && b.all (fun c => decide (c < 256))) = true) {x y : ByteArray} (hx : x = strB a) (hy : y = strB b) : (x.toList == y.toList) = false := by
  subst hx hy
  simp only [Bool.and_eq_true, Bool.not_eq_true', decide_eq_false_iff_not, List.all_eq_true, decide_eq_true_eq] at h
  rw [strB_beq h.1.2 h.2]
  exact decide_eq_false h.1.1
theorem litT {a : List Nat} {x y : ByteArray} (hx : x = strB a) (hy : y = strB a) : (x.toList == y.toList) = true := by
  subst hx hy
  exact beq_self_eq_true _
theorem litFw {a b w : List Nat} (hw : a = w) (h : (!(decide (a = b)) && a.all (fun c => decide (c < 256)) && b.all (fun c => decide (c < 256))) = true) {y : ByteArray} (hy : y = strB b) : ((strB w).toList == y.toList) = false := by
  subst hw
  exact litF h rfl hy
theorem litTw {a w : List Nat} (hw : a = w) {y : ByteArray} (hy : y = strB a) : ((strB w).toList == y.toList) = true := by
  subst hw
  exact litT rfl hy
theorem wordNe {a b : List Nat} (h : a ≠ b) (ha : Byt a) (hb : Byt b) {y : ByteArray} (hy : y = strB b) : ((strB a).toList == y.toList) = false := by
  subst hy
  rw [strB_beq ha hb, decide_eq_false h]

theorem obFor {f : FuncId} {fn : Func} {c : Code} {el : TypeId} {X rest : List D} {Q : D → List D → Prop} (pl : Plans) (hfn : Try.prog.funcs[f]? = some fn) (hc : fn.body = some c) (hok : codeOk pl fn.ntmps c = true) (hn : rest.length + 1 ≤ fn.ntmps)
    (h : wpc Try.prog tt pl c ⟨enumD (.loc 0 0 :: rest) 0, [(0, .cells el X)], 1, ([0], 1)⟩ fun e s' => endK e (resK tt s' fn.results.toList fun l => seeD (oneD l) fun d => obAt el s' fun X' => seeD (snapD 6 ((0, .dead) :: s'.H) d) fun d => seeL (X'.map (snapD 6 ((0, .dead) :: s'.H))) fun X' => Q d X')) : Ob Try.prog f el X rest Q :=
  ob_of_wpc ttH ebH mxH hfn hc hok hn h
theorem obROf {f : FuncId} {fn : Func} {c : Code} {el : TypeId} {X rest X' : List D} {α : Type} {er : TypeId} {e : Nat} {enc : α → List D} {L : List α} (F0 : List (Nat × D)) (hF0 : F0 = enumD (.loc 0 0 :: rest) 0 ∨ F0 = (1000000, .junk) :: enumD (.loc 0 0 :: rest) 0) (pl : Plans) (hfn : Try.prog.funcs[f]? = some fn) (hc : fn.body = some c) (hok : codeOk pl fn.ntmps c = true) (hX' : X'.all (cutOk 6 0) = true) (hn : rest.length + 1 ≤ fn.ntmps)
    (h : wpc Try.prog tt pl c ⟨F0, [(0, .cells el X)], 1, ([0], 1)⟩ fun x s' => endK x (resK tt s' fn.results.toList fun l => seeD (oneD l) fun d => obAt el s' fun X1 => X1 = X' ∧ rowAns s' d α er e enc L)) : ObR Try.prog f el X rest X' α er e enc L :=
  obR_of_wpc ttH ebH mxH hfn hc hok hX' hn hF0 h

abbrev rowsW (L : List (List Nat)) : D := .rows (List Nat) 1 strE L
abbrev rdX (L : List (List Nat)) (d m : Nat) : List D := [rowsW L, intD d, intD m, boolD false]
def hdW : List (List Nat) → List Nat
  | [] => []
  | w :: _ => w
theorem peek_fn (L : List (List Nat)) (d m : Nat) : Fn Try.prog 31 [.fp (rdX L d m)] fun x => x = strD (hdW L) := by
  refine fnOf [] Try.func31 rfl (by kernel_rfl) (Nat.le_of_ble_eq_true rfl) ?_
  cases L with
  | nil =>
    conv => whnf
    try rfl
  | cons w L =>
    conv => whnf
    refine ⟨rfl, ⟨Int.le_refl _, by rw [List.length_cons]; omega⟩, fun x hx => ?_⟩
    obtain rfl : w = x := Option.some.inj hx
    conv => whnf
    try rfl
theorem next_ob (w : List Nat) (L : List (List Nat)) (d m : Nat) (hw : w ≠ []) : Ob Try.prog 32 51 (rdX (w :: L) d m) [] fun x X' => x = strD w ∧ X' = rdX L d m := by
  refine obFor [] Try.func32 rfl (by kernel_rfl) (Nat.le_of_ble_eq_true rfl) ?_
  have hpk := peek_fn (w :: L) d m
  conv => whnf
  refine CallVC.snap hpk ?_
  rintro _ rfl
  refine ⟨rfl, ?_⟩
  conv => whnf
  rw [show ((strB (hdW (w :: L))).toList == (ByteArray.mk #[]).toList) = false from (nil_beq w).trans (decide_eq_false hw)]
  conv => whnf
  refine ⟨rfl, ⟨by decide, by rw [List.length_cons]; omega, by omega⟩, ?_⟩
  conv => whnf
  refine ⟨rfl, ?_⟩
  show [rowsW (((w :: L).take (w :: L).length).drop 1), intD d, intD m, boolD false] = _
  rw [List.take_length]
  rfl
end Go.Proofs.Ytfghccppoilfhaa.V
namespace Go.Proofs.Ytfghccppoilfhaa.V
open Go.RowKit
attribute [local irreducible] Fn FnN FnR Ob ObR OpVC DLe

theorem numbers7_obr (n : Nat) (hn : n ≤ 65535) (L : List (List Nat)) (d m : Nat) : ObR Try.prog 51 51 (rdX (dgs n :: L) d m) [strD [115, 112, 111, 114, 116]] (rdX L d m) FSt 37 3 fstD [⟨7, 0, n⟩] := by
  refine obROf _ (.inr rfl) [] Try.func51 rfl (by kernel_rfl) rfl (Nat.le_of_ble_eq_true rfl) ?_
  have hnx := next_ob (dgs n) L d m (dgs_ne n)
  have hnum := numF_fn n 65535 hn (by decide)
  have hpl := plainF_fn 7 (by decide)
  replace hpl : Fn Try.prog 49 [strD [115, 112, 111, 114, 116]] fun d => d = intD 7 := hpl
  generalize dgs n = dn at *
  conv => whnf
  refine CallVC.ob hnx rfl rfl rfl ?_
  rintro _ _ ⟨rfl, rfl⟩
  conv => whnf
  (refine CallVC.pure (hnum) rfl ?_; rintro _ rfl; conv => whnf)
  (rw [litF (a := [115, 112, 111, 114, 116]) (b := [112, 111, 114, 116]) (x := strB [115, 112, 111, 114, 116]) (y := ⟨#[112, 111, 114, 116]⟩) rfl rfl rfl]; conv => whnf)
  (refine CallVC.pure (hpl) rfl ?_; rintro _ rfl; conv => whnf)
  refine op_buildOwn (β := FSt) (enc := fstD) (L := [⟨7, 0, (n : Int)⟩]) ttH rfl rfl rfl rfl rfl rfl rfl rfl rfl (fun _ => rfl) ?_
  conv => whnf
  exact ⟨rfl, fun _ => rfl, rfl⟩
theorem numbers8_obr (n : Nat) (hn : n ≤ 65535) (L : List (List Nat)) (d m : Nat) : ObR Try.prog 51 51 (rdX (dgs n :: L) d m) [strD [100, 112, 111, 114, 116]] (rdX L d m) FSt 37 3 fstD [⟨8, 0, n⟩] := by
  refine obROf _ (.inr rfl) [] Try.func51 rfl (by kernel_rfl) rfl (Nat.le_of_ble_eq_true rfl) ?_
  have hnx := next_ob (dgs n) L d m (dgs_ne n)
  have hnum := numF_fn n 65535 hn (by decide)
  have hpl := plainF_fn 8 (by decide)
  replace hpl : Fn Try.prog 49 [strD [100, 112, 111, 114, 116]] fun d => d = intD 8 := hpl
  generalize dgs n = dn at *
  conv => whnf
  refine CallVC.ob hnx rfl rfl rfl ?_
  rintro _ _ ⟨rfl, rfl⟩
  conv => whnf
  (refine CallVC.pure (hnum) rfl ?_; rintro _ rfl; conv => whnf)
  (rw [litF (a := [100, 112, 111, 114, 116]) (b := [112, 111, 114, 116]) (x := strB [100, 112, 111, 114, 116]) (y := ⟨#[112, 111, 114, 116]⟩) rfl rfl rfl]; conv => whnf)
  (refine CallVC.pure (hpl) rfl ?_; rintro _ rfl; conv => whnf)
  refine op_buildOwn (β := FSt) (enc := fstD) (L := [⟨8, 0, (n : Int)⟩]) ttH rfl rfl rfl rfl rfl rfl rfl rfl rfl (fun _ => rfl) ?_
  conv => whnf
  exact ⟨rfl, fun _ => rfl, rfl⟩
theorem numbers10_obr (n : Nat) (hn : n ≤ 65535) (L : List (List Nat)) (d m : Nat) : ObR Try.prog 51 51 (rdX (dgs n :: L) d m) [strD [108, 101, 110]] (rdX L d m) FSt 37 3 fstD [⟨10, 0, n⟩] := by
  refine obROf _ (.inr rfl) [] Try.func51 rfl (by kernel_rfl) rfl (Nat.le_of_ble_eq_true rfl) ?_
  have hnx := next_ob (dgs n) L d m (dgs_ne n)
  have hnum := numF_fn n 65535 hn (by decide)
  have hpl := plainF_fn 10 (by decide)
  replace hpl : Fn Try.prog 49 [strD [108, 101, 110]] fun d => d = intD 10 := hpl
  generalize dgs n = dn at *
  conv => whnf
  refine CallVC.ob hnx rfl rfl rfl ?_
  rintro _ _ ⟨rfl, rfl⟩
  conv => whnf
  (refine CallVC.pure (hnum) rfl ?_; rintro _ rfl; conv => whnf)
  (rw [litF (a := [108, 101, 110]) (b := [112, 111, 114, 116]) (x := strB [108, 101, 110]) (y := ⟨#[112, 111, 114, 116]⟩) rfl rfl rfl]; conv => whnf)
  (refine CallVC.pure (hpl) rfl ?_; rintro _ rfl; conv => whnf)
  refine op_buildOwn (β := FSt) (enc := fstD) (L := [⟨10, 0, (n : Int)⟩]) ttH rfl rfl rfl rfl rfl rfl rfl rfl rfl (fun _ => rfl) ?_
  conv => whnf
  exact ⟨rfl, fun _ => rfl, rfl⟩
theorem nets5_obr (a n : Nat) (ha : a < 4294967296) (hn : n ≤ 32) (L : List (List Nat)) (d m : Nat) : ObR Try.prog 50 51 (rdX ((txt a ++ 47 :: dgs n) :: L) d m) [strD [115, 114, 99]] (rdX L d m) FSt 37 3 fstD [⟨5, a, n⟩] := by
  refine obROf _ (.inr rfl) [] Try.func50 rfl (by kernel_rfl) rfl (Nat.le_of_ble_eq_true rfl) ?_
  have hnx := next_ob (txt a ++ 47 :: dgs n) L d m (by simp)
  have hnet := netF_fn a n ha hn
  have hpl := plainF_fn 5 (by decide)
  replace hpl : Fn Try.prog 49 [strD [115, 114, 99]] fun d => d = intD 5 := hpl
  generalize txt a ++ 47 :: dgs n = dn at *
  conv => whnf
  refine CallVC.ob hnx rfl rfl rfl ?_
  rintro _ _ ⟨rfl, rfl⟩
  conv => whnf
  (refine CallVC.pure (hnet) rfl ?_; rintro _ rfl; conv => whnf)
  (rw [litF (a := [115, 114, 99]) (b := [104, 111, 115, 116]) (x := strB [115, 114, 99]) (y := ⟨#[104, 111, 115, 116]⟩) rfl rfl rfl]; conv => whnf)
  (refine CallVC.pure (hpl) rfl ?_; rintro _ rfl; conv => whnf)
  refine op_buildOwn (β := FSt) (enc := fstD) (L := [⟨5, a, (n : Int)⟩]) ttH rfl rfl rfl rfl rfl rfl rfl rfl rfl (fun _ => rfl) ?_
  conv => whnf
  exact ⟨rfl, fun _ => rfl, rfl⟩
theorem nets6_obr (a n : Nat) (ha : a < 4294967296) (hn : n ≤ 32) (L : List (List Nat)) (d m : Nat) : ObR Try.prog 50 51 (rdX ((txt a ++ 47 :: dgs n) :: L) d m) [strD [100, 115, 116]] (rdX L d m) FSt 37 3 fstD [⟨6, a, n⟩] := by
  refine obROf _ (.inr rfl) [] Try.func50 rfl (by kernel_rfl) rfl (Nat.le_of_ble_eq_true rfl) ?_
  have hnx := next_ob (txt a ++ 47 :: dgs n) L d m (by simp)
  have hnet := netF_fn a n ha hn
  have hpl := plainF_fn 6 (by decide)
  replace hpl : Fn Try.prog 49 [strD [100, 115, 116]] fun d => d = intD 6 := hpl
  generalize txt a ++ 47 :: dgs n = dn at *
  conv => whnf
  refine CallVC.ob hnx rfl rfl rfl ?_
  rintro _ _ ⟨rfl, rfl⟩
  conv => whnf
  (refine CallVC.pure (hnet) rfl ?_; rintro _ rfl; conv => whnf)
  (rw [litF (a := [100, 115, 116]) (b := [104, 111, 115, 116]) (x := strB [100, 115, 116]) (y := ⟨#[104, 111, 115, 116]⟩) rfl rfl rfl]; conv => whnf)
  (refine CallVC.pure (hpl) rfl ?_; rintro _ rfl; conv => whnf)
  refine op_buildOwn (β := FSt) (enc := fstD) (L := [⟨6, a, (n : Int)⟩]) ttH rfl rfl rfl rfl rfl rfl rfl rfl rfl (fun _ => rfl) ?_
  conv => whnf
  exact ⟨rfl, fun _ => rfl, rfl⟩
theorem term_one {A B : List (List Nat)} {d m m1 : Nat} {F1 : List FSt} (h1 : ObR Try.prog 40 51 (rdX A d m) [] (rdX B d m1) FSt 37 3 fstD F1) (hB : hdW B ≠ [97, 110, 100]) (hb : Byt (hdW B)) : ObR Try.prog 30 51 (rdX A d m) [] (rdX B d m1) FSt 37 3 fstD F1 := by
  refine obROf _ (.inl rfl) [] Try.func30 rfl (by kernel_rfl) rfl (Nat.le_of_ble_eq_true rfl) ?_
  have hpk := peek_fn B d m1
  have hne := wordNe hB hb (b := [97, 110, 100]) (low_byt (lit_low (by decide))) (y := ⟨#[97, 110, 100]⟩) rfl
  generalize hdW B = hd at *
  conv => whnf
  refine CallVC.obr h1 rfl rfl rfl ?_
  conv => whnf
  refine ⟨Unit, fun _ => ⟨[(3, .grow 1), (0, .loc 0 0)], [(0, .cells 51 (rdX B d m1)), (1, .grow FSt 37 3 fstD F1)], 2, ([0], 1)⟩, fun _ => True, fun _ => 0, ⟨(), [], [], ?_, trivial⟩, ?_⟩
  · repeat' (first | exact trivial | exact .inl (DLe.refl _) | exact .inl (DLe.nil _ _) | (refine .inr ⟨rfl, _, ?_, rfl⟩; rfl) | exact rfl | exact .inl rfl | exact .inr ⟨rfl, rfl, rfl, rfl⟩ | exact Nat.zero_le _ | constructor)
  rintro _ _
  conv => whnf
  refine CallVC.snap hpk ?_
  rintro _ rfl
  refine ⟨rfl, ?_⟩
  conv => whnf
  rw [hne]
  conv => whnf
  exact ⟨rfl, fun _ => rfl, rfl⟩
theorem expr_one {A B : List (List Nat)} {d m m1 : Nat} {F1 : List FSt} (h1 : ObR Try.prog 30 51 (rdX A d m) [] (rdX B d m1) FSt 37 3 fstD F1) (hB : hdW B ≠ [111, 114]) (hb : Byt (hdW B)) : ObR Try.prog 20 51 (rdX A d m) [] (rdX B d m1) FSt 37 3 fstD F1 := by
  refine obROf _ (.inl rfl) [] Try.func20 rfl (by kernel_rfl) rfl (Nat.le_of_ble_eq_true rfl) ?_
  have hpk := peek_fn B d m1
  have hne := wordNe hB hb (b := [111, 114]) (low_byt (lit_low (by decide))) (y := ⟨#[111, 114]⟩) rfl
  generalize hdW B = hd at *
  conv => whnf
  refine CallVC.obr h1 rfl rfl rfl ?_
  conv => whnf
  refine ⟨Unit, fun _ => ⟨[(3, .grow 1), (0, .loc 0 0)], [(0, .cells 51 (rdX B d m1)), (1, .grow FSt 37 3 fstD F1)], 2, ([0], 1)⟩, fun _ => True, fun _ => 0, ⟨(), [], [], ?_, trivial⟩, ?_⟩
  · repeat' (first | exact trivial | exact .inl (DLe.refl _) | exact .inl (DLe.nil _ _) | (refine .inr ⟨rfl, _, ?_, rfl⟩; rfl) | exact rfl | exact .inl rfl | exact .inr ⟨rfl, rfl, rfl, rfl⟩ | exact Nat.zero_le _ | constructor)
  rintro _ _
  conv => whnf
  refine CallVC.snap hpk ?_
  rintro _ rfl
  refine ⟨rfl, ?_⟩
  conv => whnf
  rw [hne]
  conv => whnf
  exact ⟨rfl, fun _ => rfl, rfl⟩
theorem term_two {A B C : List (List Nat)} {d m m1 m2 : Nat} {F1 F2 : List FSt} (h1 : ObR Try.prog 40 51 (rdX A d m) [] (rdX ([97, 110, 100] :: B) d m1) FSt 37 3 fstD F1) (h2 : ObR Try.prog 40 51 (rdX B d m1) [] (rdX C d m2) FSt 37 3 fstD F2)
    (hC : hdW C ≠ [97, 110, 100]) (hb : Byt (hdW C)) (l1 : F1.length ≤ 100000) (l2 : F2.length ≤ 100000) : ObR Try.prog 30 51 (rdX A d m) [] (rdX C d m2) FSt 37 3 fstD (F1 ++ F2 ++ [opSt 11]) := by
  refine obROf _ (.inl rfl) [] Try.func30 rfl (by kernel_rfl) rfl (Nat.le_of_ble_eq_true rfl) ?_
  have hpk1 : Fn Try.prog 31 [.fp (rdX ([97, 110, 100] :: B) d m1)] fun x => x = strD [97, 110, 100] := peek_fn ([97, 110, 100] :: B) d m1
  have hpk2 := peek_fn C d m2
  have hnx := next_ob [97, 110, 100] B d m1 (by decide)
  have hne := wordNe hC hb (b := [97, 110, 100]) (low_byt (lit_low (by decide))) (y := ⟨#[97, 110, 100]⟩) rfl
  generalize hdW C = hd at *
  conv => whnf
  refine CallVC.obr h1 rfl rfl rfl ?_
  conv => whnf
  refine ⟨Bool, fun b => match b with
    | false => ⟨[(3, .grow 1), (0, .loc 0 0)], [(0, .cells 51 (rdX ([97, 110, 100] :: B) d m1)), (1, .grow FSt 37 3 fstD F1)], 2, ([0], 1)⟩
    | true => ⟨[(3, .grow 1), (0, .loc 0 0)], [(0, .cells 51 (rdX C d m2)), (1, .grow FSt 37 3 fstD (F1 ++ F2 ++ [opSt 11]))], 2, ([0], 1)⟩, fun _ => True, fun b => match b with | false => 1 | true => 0, ⟨false, [], [], ?_, trivial⟩, ?_⟩
  · repeat' (first | exact trivial | exact .inl (DLe.refl _) | exact .inl (DLe.nil _ _) | (refine .inr ⟨rfl, _, ?_, rfl⟩; rfl) | exact rfl | exact .inl rfl | exact .inr ⟨rfl, rfl, rfl, rfl⟩ | exact Nat.zero_le _ | constructor)
  rintro (_ | _) _
  · conv => whnf
    refine CallVC.snap hpk1 ?_
    rintro _ rfl
    refine ⟨rfl, ?_⟩
    conv => whnf
    (rw [litT (a := [97, 110, 100]) (x := strB [97, 110, 100]) (y := ⟨#[97, 110, 100]⟩) rfl rfl]; conv => whnf)
    refine CallVC.ob hnx rfl rfl rfl ?_
    rintro _ _ ⟨rfl, rfl⟩
    conv => whnf
    refine CallVC.obr h2 rfl rfl rfl ?_
    conv => whnf
    refine ⟨FSt, fstD, F1 ++ F2, by rw [List.map_append], fun _ => rfl, by rw [List.length_append]; omega, by rw [List.length_append]; show (F1.length + F2.length) * 24 ≤ _; omega, rfl, ?_⟩
    conv => whnf
    refine ⟨by decide, ?_⟩
    conv => whnf
    refine ⟨FSt, fstD, F1 ++ F2 ++ [opSt 11], by rw [List.map_append]; rfl, fun _ => rfl, by simp only [List.length_append, List.length_singleton]; omega, by simp only [List.length_append, List.length_singleton]; show (F1.length + F2.length + 1) * 24 ≤ _; omega, rfl, ?_⟩
    conv => whnf
    refine ⟨true, [(1, 4)], [], ?_, trivial, Nat.zero_lt_one⟩
    repeat' (first | exact trivial | exact .inl (DLe.refl _) | exact .inl (DLe.nil _ _) | (refine .inr ⟨rfl, _, ?_, rfl⟩; rfl) | exact rfl | exact .inl rfl | exact .inr ⟨rfl, rfl, rfl, rfl⟩ | exact Nat.zero_le _ | constructor)
  · conv => whnf
    refine CallVC.snap hpk2 ?_
    rintro _ rfl
    refine ⟨rfl, ?_⟩
    conv => whnf
    rw [hne]
    conv => whnf
    exact ⟨rfl, fun _ => rfl, rfl⟩
theorem expr_two {A B C : List (List Nat)} {d m m1 m2 : Nat} {F1 F2 : List FSt} (h1 : ObR Try.prog 30 51 (rdX A d m) [] (rdX ([111, 114] :: B) d m1) FSt 37 3 fstD F1) (h2 : ObR Try.prog 30 51 (rdX B d m1) [] (rdX C d m2) FSt 37 3 fstD F2)
    (hC : hdW C ≠ [111, 114]) (hb : Byt (hdW C)) (l1 : F1.length ≤ 100000) (l2 : F2.length ≤ 100000) : ObR Try.prog 20 51 (rdX A d m) [] (rdX C d m2) FSt 37 3 fstD (F1 ++ F2 ++ [opSt 12]) := by
  refine obROf _ (.inl rfl) [] Try.func20 rfl (by kernel_rfl) rfl (Nat.le_of_ble_eq_true rfl) ?_
  have hpk1 : Fn Try.prog 31 [.fp (rdX ([111, 114] :: B) d m1)] fun x => x = strD [111, 114] := peek_fn ([111, 114] :: B) d m1
  have hpk2 := peek_fn C d m2
  have hnx := next_ob [111, 114] B d m1 (by decide)
  have hne := wordNe hC hb (b := [111, 114]) (low_byt (lit_low (by decide))) (y := ⟨#[111, 114]⟩) rfl
  generalize hdW C = hd at *
  conv => whnf
  refine CallVC.obr h1 rfl rfl rfl ?_
  conv => whnf
  refine ⟨Bool, fun b => match b with
    | false => ⟨[(3, .grow 1), (0, .loc 0 0)], [(0, .cells 51 (rdX ([111, 114] :: B) d m1)), (1, .grow FSt 37 3 fstD F1)], 2, ([0], 1)⟩
    | true => ⟨[(3, .grow 1), (0, .loc 0 0)], [(0, .cells 51 (rdX C d m2)), (1, .grow FSt 37 3 fstD (F1 ++ F2 ++ [opSt 12]))], 2, ([0], 1)⟩, fun _ => True, fun b => match b with | false => 1 | true => 0, ⟨false, [], [], ?_, trivial⟩, ?_⟩
  · repeat' (first | exact trivial | exact .inl (DLe.refl _) | exact .inl (DLe.nil _ _) | (refine .inr ⟨rfl, _, ?_, rfl⟩; rfl) | exact rfl | exact .inl rfl | exact .inr ⟨rfl, rfl, rfl, rfl⟩ | exact Nat.zero_le _ | constructor)
  rintro (_ | _) _
  · conv => whnf
    refine CallVC.snap hpk1 ?_
    rintro _ rfl
    refine ⟨rfl, ?_⟩
    conv => whnf
    (rw [litT (a := [111, 114]) (x := strB [111, 114]) (y := ⟨#[111, 114]⟩) rfl rfl]; conv => whnf)
    refine CallVC.ob hnx rfl rfl rfl ?_
    rintro _ _ ⟨rfl, rfl⟩
    conv => whnf
    refine CallVC.obr h2 rfl rfl rfl ?_
    conv => whnf
    refine ⟨FSt, fstD, F1 ++ F2, by rw [List.map_append], fun _ => rfl, by rw [List.length_append]; omega, by rw [List.length_append]; show (F1.length + F2.length) * 24 ≤ _; omega, rfl, ?_⟩
    conv => whnf
    refine ⟨by decide, ?_⟩
    conv => whnf
    refine ⟨FSt, fstD, F1 ++ F2 ++ [opSt 12], by rw [List.map_append]; rfl, fun _ => rfl, by simp only [List.length_append, List.length_singleton]; omega, by simp only [List.length_append, List.length_singleton]; show (F1.length + F2.length + 1) * 24 ≤ _; omega, rfl, ?_⟩
    conv => whnf
    refine ⟨true, [(1, 4)], [], ?_, trivial, Nat.zero_lt_one⟩
    repeat' (first | exact trivial | exact .inl (DLe.refl _) | exact .inl (DLe.nil _ _) | (refine .inr ⟨rfl, _, ?_, rfl⟩; rfl) | exact rfl | exact .inl rfl | exact .inr ⟨rfl, rfl, rfl, rfl⟩ | exact Nat.zero_le _ | constructor)
  · conv => whnf
    refine CallVC.snap hpk2 ?_
    rintro _ rfl
    refine ⟨rfl, ?_⟩
    conv => whnf
    rw [hne]
    conv => whnf
    exact ⟨rfl, fun _ => rfl, rfl⟩
end Go.Proofs.Ytfghccppoilfhaa.V
namespace Go.Proofs.Ytfghccppoilfhaa.V
open Go.RowKit
attribute [local irreducible] Fn FnN FnR Ob ObR OpVC DLe

theorem slot_put (t : Nat) (d : D) (F H nx G) : slotD ⟨(t, d) :: F, H, nx, G⟩ t = d := by
  unfold slotD lget
  rw [show Nat.beq t t = true from Nat.beq_refl t]
theorem pure_streq {P : Program} {tt : TT} {s : St} {i e : Nat} {y x : ByteArray} {b : Bool} {K : D → Prop} (hs : slotD s i = .v (.string x)) (hb : (x.toList == y.toList) = b) (h : K (.v (.bool b))) : pureD P tt s (.binOp .eql e (.tmp i) (.const (.string y)) e) K := by
  subst hb
  show exactK (slotD s i) _ _
  rw [hs]
  exact h
theorem wpc_streq {P : Program} {tt : TT} {pl : Plans} {id t u ty1 ty2 e : Nat} {p1 p2 : String} {y x : ByteArray} {A B : Code} {F H nx G K} {b : Bool}
    (hs : slotD ⟨F, H, nx, G⟩ 7 = .v (.string x)) (hb : (x.toList == y.toList) = b) (h : wpc P tt pl (match b with | true => A | false => B) ⟨(u, .v (.bool b)) :: (t, .v (.bool b)) :: F, H, nx, G⟩ K) :
    wpc P tt pl ((Code.region id #[{ dst := some t, op := .binOp .eql e (.tmp 7) (.const (.string y)) e, type := ty1, pos := p1, after := #[], guard := none }, { dst := some u, op := .assign (.tmp t), type := ty2, pos := p2, after := #[{ on := 0, ground := .data }], guard := none }] false).seq (.cond (.tmp u) A B)) ⟨F, H, nx, G⟩ K := by
  show pureD P tt ⟨F, H, nx, G⟩ (.binOp .eql e (.tmp 7) (.const (.string y)) e) (fun d => putK ⟨F, H, nx, G⟩ (some t) d fun s => pureD P tt s (.assign (.tmp t)) fun d => putK s (some u) d fun s => wpc P tt pl (.cond (.tmp u) A B) s K)
  refine pure_streq hs hb ?_
  show seeD (slotD ⟨(t, .v (.bool b)) :: F, H, nx, G⟩ t) (fun d => putK ⟨(t, .v (.bool b)) :: F, H, nx, G⟩ (some u) d fun s => wpc P tt pl (.cond (.tmp u) A B) s K)
  rw [slot_put]
  show (match slotD ⟨(u, .v (.bool b)) :: (t, .v (.bool b)) :: F, H, nx, G⟩ u with
    | .v (.bool β) => Fork β (wpc P tt pl A ⟨(u, .v (.bool b)) :: (t, .v (.bool b)) :: F, H, nx, G⟩ K) (wpc P tt pl B ⟨(u, .v (.bool b)) :: (t, .v (.bool b)) :: F, H, nx, G⟩ K)
    | _ => False)
  rw [slot_put]
  cases b
  · exact h
  · exact h
theorem wpc_streq1 {P : Program} {tt : TT} {pl : Plans} {id t u ty1 ty2 e : Nat} {p1 p2 : String} {y x : ByteArray} {F H nx G K} {b : Bool}
    (hs : slotD ⟨F, H, nx, G⟩ 7 = .v (.string x)) (hb : (x.toList == y.toList) = b) (h : K .normal ⟨(u, .v (.bool b)) :: (t, .v (.bool b)) :: F, H, nx, G⟩) :
    wpc P tt pl (Code.region id #[{ dst := some t, op := .binOp .eql e (.tmp 7) (.const (.string y)) e, type := ty1, pos := p1, after := #[], guard := none }, { dst := some u, op := .assign (.tmp t), type := ty2, pos := p2, after := #[{ on := 0, ground := .data }], guard := none }] false) ⟨F, H, nx, G⟩ K := by
  show pureD P tt ⟨F, H, nx, G⟩ (.binOp .eql e (.tmp 7) (.const (.string y)) e) (fun d => putK ⟨F, H, nx, G⟩ (some t) d fun s => pureD P tt s (.assign (.tmp t)) fun d => putK s (some u) d fun s => K .normal s)
  refine pure_streq hs hb ?_
  show seeD (slotD ⟨(t, .v (.bool b)) :: F, H, nx, G⟩ t) (fun d => putK ⟨(t, .v (.bool b)) :: F, H, nx, G⟩ (some u) d fun s => K .normal s)
  rw [slot_put]
  exact h
theorem wpc_seqI {P : Program} {tt : TT} {pl : Plans} {a b : Code} {s : St} {K} (h : wpc P tt pl a s fun e s' => match e with
    | .normal => wpc P tt pl b s' K
    | .exit i => K (.exit i) s'
    | .ret => K .ret s') : wpc P tt pl (.seq a b) s K := h
theorem wpc_skipI {P : Program} {tt : TT} {pl : Plans} {s : St} {K : VExit → St → Prop} (h : K .normal s) : wpc P tt pl .skip s K := h
theorem wpc_condI {P : Program} {tt : TT} {pl : Plans} {u : Nat} {A B : Code} {s : St} {K : VExit → St → Prop} {b : Bool} (hs : slotD s u = .v (.bool b)) (h : wpc P tt pl (match b with | true => A | false => B) s K) : wpc P tt pl (.cond (.tmp u) A B) s K := by
  show (match slotD s u with
    | .v (.bool β) => Fork β (wpc P tt pl A s K) (wpc P tt pl B s K)
    | _ => False)
  rw [hs]
  cases b
  · exact h
  · exact h

theorem fact1_obr (L : List (List Nat)) (d m : Nat) : ObR Try.prog 40 51 (rdX ([116, 99, 112] :: L) d m) [] (rdX L d m) FSt 37 3 fstD ([⟨1, 0, 0⟩]) := by
  refine obROf _ (.inr rfl) [] Try.func40 rfl (by kernel_rfl) rfl (Nat.le_of_ble_eq_true rfl) ?_
  have hpl := plainF_fn 1 (by decide)
  replace hpl : Fn Try.prog 49 [strD [116, 99, 112]] fun d => d = intD 1 := hpl
  have hnx := next_ob [116, 99, 112] (L) d m (by decide)
  generalize hw : [116, 99, 112] = w at *
  conv => whnf
  refine CallVC.ob hnx rfl rfl rfl ?_
  rintro _ _ ⟨rfl, rfl⟩
  conv => whnf
  have hb := litFw (b := [110, 111, 116]) (y := ⟨#[110, 111, 116]⟩) hw rfl rfl
  generalize ((strB w).toList == (ByteArray.mk #[110, 111, 116]).toList) = b1 at hb ⊢
  subst hb
  show wpc Try.prog tt [] _ _ _
  refine wpc_streq (b := false) rfl (litFw (b := [40]) hw rfl rfl) ?_
  refine wpc_seqI ?_
  refine wpc_streq (b := true) rfl (litTw hw rfl) ?_
  refine wpc_skipI ?_
  show wpc Try.prog tt [] _ _ _
  refine wpc_condI (b := true) rfl ?_
  show wpc Try.prog tt [] _ _ _
  conv => whnf
  (refine CallVC.pure (hpl) rfl ?_; rintro _ rfl; conv => whnf)
  refine op_buildOwn (β := FSt) (enc := fstD) (L := [⟨1, 0, 0⟩]) ttH rfl rfl rfl rfl rfl rfl rfl rfl rfl (fun _ => rfl) ?_
  conv => whnf
  exact ⟨rfl, fun _ => rfl, rfl⟩
theorem fact2_obr (L : List (List Nat)) (d m : Nat) : ObR Try.prog 40 51 (rdX ([117, 100, 112] :: L) d m) [] (rdX L d m) FSt 37 3 fstD ([⟨2, 0, 0⟩]) := by
  refine obROf _ (.inr rfl) [] Try.func40 rfl (by kernel_rfl) rfl (Nat.le_of_ble_eq_true rfl) ?_
  have hpl := plainF_fn 2 (by decide)
  replace hpl : Fn Try.prog 49 [strD [117, 100, 112]] fun d => d = intD 2 := hpl
  have hnx := next_ob [117, 100, 112] (L) d m (by decide)
  generalize hw : [117, 100, 112] = w at *
  conv => whnf
  refine CallVC.ob hnx rfl rfl rfl ?_
  rintro _ _ ⟨rfl, rfl⟩
  conv => whnf
  have hb := litFw (b := [110, 111, 116]) (y := ⟨#[110, 111, 116]⟩) hw rfl rfl
  generalize ((strB w).toList == (ByteArray.mk #[110, 111, 116]).toList) = b1 at hb ⊢
  subst hb
  show wpc Try.prog tt [] _ _ _
  refine wpc_streq (b := false) rfl (litFw (b := [40]) hw rfl rfl) ?_
  refine wpc_seqI ?_
  refine wpc_streq (b := false) rfl (litFw (b := [116, 99, 112]) hw rfl rfl) ?_
  refine wpc_streq (b := true) rfl (litTw hw rfl) ?_
  refine wpc_skipI ?_
  show wpc Try.prog tt [] _ _ _
  refine wpc_condI (b := true) rfl ?_
  show wpc Try.prog tt [] _ _ _
  conv => whnf
  (refine CallVC.pure (hpl) rfl ?_; rintro _ rfl; conv => whnf)
  refine op_buildOwn (β := FSt) (enc := fstD) (L := [⟨2, 0, 0⟩]) ttH rfl rfl rfl rfl rfl rfl rfl rfl rfl (fun _ => rfl) ?_
  conv => whnf
  exact ⟨rfl, fun _ => rfl, rfl⟩
theorem fact3_obr (L : List (List Nat)) (d m : Nat) : ObR Try.prog 40 51 (rdX ([105, 99, 109, 112] :: L) d m) [] (rdX L d m) FSt 37 3 fstD ([⟨3, 0, 0⟩]) := by
  refine obROf _ (.inr rfl) [] Try.func40 rfl (by kernel_rfl) rfl (Nat.le_of_ble_eq_true rfl) ?_
  have hpl := plainF_fn 3 (by decide)
  replace hpl : Fn Try.prog 49 [strD [105, 99, 109, 112]] fun d => d = intD 3 := hpl
  have hnx := next_ob [105, 99, 109, 112] (L) d m (by decide)
  generalize hw : [105, 99, 109, 112] = w at *
  conv => whnf
  refine CallVC.ob hnx rfl rfl rfl ?_
  rintro _ _ ⟨rfl, rfl⟩
  conv => whnf
  have hb := litFw (b := [110, 111, 116]) (y := ⟨#[110, 111, 116]⟩) hw rfl rfl
  generalize ((strB w).toList == (ByteArray.mk #[110, 111, 116]).toList) = b1 at hb ⊢
  subst hb
  show wpc Try.prog tt [] _ _ _
  refine wpc_streq (b := false) rfl (litFw (b := [40]) hw rfl rfl) ?_
  refine wpc_seqI ?_
  refine wpc_streq (b := false) rfl (litFw (b := [116, 99, 112]) hw rfl rfl) ?_
  refine wpc_streq (b := false) rfl (litFw (b := [117, 100, 112]) hw rfl rfl) ?_
  refine wpc_streq (b := true) rfl (litTw hw rfl) ?_
  refine wpc_skipI ?_
  show wpc Try.prog tt [] _ _ _
  refine wpc_condI (b := true) rfl ?_
  show wpc Try.prog tt [] _ _ _
  conv => whnf
  (refine CallVC.pure (hpl) rfl ?_; rintro _ rfl; conv => whnf)
  refine op_buildOwn (β := FSt) (enc := fstD) (L := [⟨3, 0, 0⟩]) ttH rfl rfl rfl rfl rfl rfl rfl rfl rfl (fun _ => rfl) ?_
  conv => whnf
  exact ⟨rfl, fun _ => rfl, rfl⟩
theorem fact4_obr (L : List (List Nat)) (d m : Nat) : ObR Try.prog 40 51 (rdX ([97, 110, 121] :: L) d m) [] (rdX L d m) FSt 37 3 fstD ([⟨4, 0, 0⟩]) := by
  refine obROf _ (.inr rfl) [] Try.func40 rfl (by kernel_rfl) rfl (Nat.le_of_ble_eq_true rfl) ?_
  have hpl := plainF_fn 4 (by decide)
  replace hpl : Fn Try.prog 49 [strD [97, 110, 121]] fun d => d = intD 4 := hpl
  have hnx := next_ob [97, 110, 121] (L) d m (by decide)
  generalize hw : [97, 110, 121] = w at *
  conv => whnf
  refine CallVC.ob hnx rfl rfl rfl ?_
  rintro _ _ ⟨rfl, rfl⟩
  conv => whnf
  have hb := litFw (b := [110, 111, 116]) (y := ⟨#[110, 111, 116]⟩) hw rfl rfl
  generalize ((strB w).toList == (ByteArray.mk #[110, 111, 116]).toList) = b1 at hb ⊢
  subst hb
  show wpc Try.prog tt [] _ _ _
  refine wpc_streq (b := false) rfl (litFw (b := [40]) hw rfl rfl) ?_
  refine wpc_seqI ?_
  refine wpc_streq (b := false) rfl (litFw (b := [116, 99, 112]) hw rfl rfl) ?_
  refine wpc_streq (b := false) rfl (litFw (b := [117, 100, 112]) hw rfl rfl) ?_
  refine wpc_streq (b := false) rfl (litFw (b := [105, 99, 109, 112]) hw rfl rfl) ?_
  refine wpc_streq (b := true) rfl (litTw hw rfl) ?_
  refine wpc_skipI ?_
  show wpc Try.prog tt [] _ _ _
  refine wpc_condI (b := true) rfl ?_
  show wpc Try.prog tt [] _ _ _
  conv => whnf
  (refine CallVC.pure (hpl) rfl ?_; rintro _ rfl; conv => whnf)
  refine op_buildOwn (β := FSt) (enc := fstD) (L := [⟨4, 0, 0⟩]) ttH rfl rfl rfl rfl rfl rfl rfl rfl rfl (fun _ => rfl) ?_
  conv => whnf
  exact ⟨rfl, fun _ => rfl, rfl⟩
theorem fact9_obr (L : List (List Nat)) (d m : Nat) : ObR Try.prog 40 51 (rdX ([115, 121, 110] :: L) d m) [] (rdX L d m) FSt 37 3 fstD ([⟨9, 0, 0⟩]) := by
  refine obROf _ (.inr rfl) [] Try.func40 rfl (by kernel_rfl) rfl (Nat.le_of_ble_eq_true rfl) ?_
  have hpl := plainF_fn 9 (by decide)
  replace hpl : Fn Try.prog 49 [strD [115, 121, 110]] fun d => d = intD 9 := hpl
  have hnx := next_ob [115, 121, 110] (L) d m (by decide)
  generalize hw : [115, 121, 110] = w at *
  conv => whnf
  refine CallVC.ob hnx rfl rfl rfl ?_
  rintro _ _ ⟨rfl, rfl⟩
  conv => whnf
  have hb := litFw (b := [110, 111, 116]) (y := ⟨#[110, 111, 116]⟩) hw rfl rfl
  generalize ((strB w).toList == (ByteArray.mk #[110, 111, 116]).toList) = b1 at hb ⊢
  subst hb
  show wpc Try.prog tt [] _ _ _
  refine wpc_streq (b := false) rfl (litFw (b := [40]) hw rfl rfl) ?_
  refine wpc_seqI ?_
  refine wpc_streq (b := false) rfl (litFw (b := [116, 99, 112]) hw rfl rfl) ?_
  refine wpc_streq (b := false) rfl (litFw (b := [117, 100, 112]) hw rfl rfl) ?_
  refine wpc_streq (b := false) rfl (litFw (b := [105, 99, 109, 112]) hw rfl rfl) ?_
  refine wpc_streq (b := false) rfl (litFw (b := [97, 110, 121]) hw rfl rfl) ?_
  refine wpc_streq1 (b := true) rfl (litTw hw rfl) ?_
  show wpc Try.prog tt [] _ _ _
  refine wpc_condI (b := true) rfl ?_
  show wpc Try.prog tt [] _ _ _
  conv => whnf
  (refine CallVC.pure (hpl) rfl ?_; rintro _ rfl; conv => whnf)
  refine op_buildOwn (β := FSt) (enc := fstD) (L := [⟨9, 0, 0⟩]) ttH rfl rfl rfl rfl rfl rfl rfl rfl rfl (fun _ => rfl) ?_
  conv => whnf
  exact ⟨rfl, fun _ => rfl, rfl⟩
theorem fact7_obr (n : Nat) (hn : n ≤ 65535) (L : List (List Nat)) (d m : Nat) : ObR Try.prog 40 51 (rdX ([115, 112, 111, 114, 116] :: dgs n :: L) d m) [] (rdX L d m) FSt 37 3 fstD ([⟨7, 0, n⟩]) := by
  refine obROf _ (.inl rfl) [] Try.func40 rfl (by kernel_rfl) rfl (Nat.le_of_ble_eq_true rfl) ?_
  have hnum := numbers7_obr n hn L d m
  have hnx := next_ob [115, 112, 111, 114, 116] (dgs n :: L) d m (by decide)
  generalize hw : [115, 112, 111, 114, 116] = w at *
  conv => whnf
  refine CallVC.ob hnx rfl rfl rfl ?_
  rintro _ _ ⟨rfl, rfl⟩
  conv => whnf
  have hb := litFw (b := [110, 111, 116]) (y := ⟨#[110, 111, 116]⟩) hw rfl rfl
  generalize ((strB w).toList == (ByteArray.mk #[110, 111, 116]).toList) = b1 at hb ⊢
  subst hb
  show wpc Try.prog tt [] _ _ _
  refine wpc_streq (b := false) rfl (litFw (b := [40]) hw rfl rfl) ?_
  refine wpc_seqI ?_
  refine wpc_streq (b := false) rfl (litFw (b := [116, 99, 112]) hw rfl rfl) ?_
  refine wpc_streq (b := false) rfl (litFw (b := [117, 100, 112]) hw rfl rfl) ?_
  refine wpc_streq (b := false) rfl (litFw (b := [105, 99, 109, 112]) hw rfl rfl) ?_
  refine wpc_streq (b := false) rfl (litFw (b := [97, 110, 121]) hw rfl rfl) ?_
  refine wpc_streq1 (b := false) rfl (litFw (b := [115, 121, 110]) hw rfl rfl) ?_
  show wpc Try.prog tt [] _ _ _
  refine wpc_condI (b := false) rfl ?_
  refine wpc_seqI ?_
  refine wpc_streq (b := false) rfl (litFw (b := [115, 114, 99]) hw rfl rfl) ?_
  refine wpc_streq (b := false) rfl (litFw (b := [100, 115, 116]) hw rfl rfl) ?_
  refine wpc_streq1 (b := false) rfl (litFw (b := [104, 111, 115, 116]) hw rfl rfl) ?_
  show wpc Try.prog tt [] _ _ _
  refine wpc_condI (b := false) rfl ?_
  refine wpc_seqI ?_
  refine wpc_streq (b := true) rfl (litTw hw rfl) ?_
  refine wpc_skipI ?_
  show wpc Try.prog tt [] _ _ _
  refine wpc_condI (b := true) rfl ?_
  show wpc Try.prog tt [] _ _ _
  conv => whnf
  refine CallVC.obr hnum rfl rfl rfl ?_
  conv => whnf
  exact ⟨rfl, fun _ => rfl, rfl⟩
theorem fact8_obr (n : Nat) (hn : n ≤ 65535) (L : List (List Nat)) (d m : Nat) : ObR Try.prog 40 51 (rdX ([100, 112, 111, 114, 116] :: dgs n :: L) d m) [] (rdX L d m) FSt 37 3 fstD ([⟨8, 0, n⟩]) := by
  refine obROf _ (.inl rfl) [] Try.func40 rfl (by kernel_rfl) rfl (Nat.le_of_ble_eq_true rfl) ?_
  have hnum := numbers8_obr n hn L d m
  have hnx := next_ob [100, 112, 111, 114, 116] (dgs n :: L) d m (by decide)
  generalize hw : [100, 112, 111, 114, 116] = w at *
  conv => whnf
  refine CallVC.ob hnx rfl rfl rfl ?_
  rintro _ _ ⟨rfl, rfl⟩
  conv => whnf
  have hb := litFw (b := [110, 111, 116]) (y := ⟨#[110, 111, 116]⟩) hw rfl rfl
  generalize ((strB w).toList == (ByteArray.mk #[110, 111, 116]).toList) = b1 at hb ⊢
  subst hb
  show wpc Try.prog tt [] _ _ _
  refine wpc_streq (b := false) rfl (litFw (b := [40]) hw rfl rfl) ?_
  refine wpc_seqI ?_
  refine wpc_streq (b := false) rfl (litFw (b := [116, 99, 112]) hw rfl rfl) ?_
  refine wpc_streq (b := false) rfl (litFw (b := [117, 100, 112]) hw rfl rfl) ?_
  refine wpc_streq (b := false) rfl (litFw (b := [105, 99, 109, 112]) hw rfl rfl) ?_
  refine wpc_streq (b := false) rfl (litFw (b := [97, 110, 121]) hw rfl rfl) ?_
  refine wpc_streq1 (b := false) rfl (litFw (b := [115, 121, 110]) hw rfl rfl) ?_
  show wpc Try.prog tt [] _ _ _
  refine wpc_condI (b := false) rfl ?_
  refine wpc_seqI ?_
  refine wpc_streq (b := false) rfl (litFw (b := [115, 114, 99]) hw rfl rfl) ?_
  refine wpc_streq (b := false) rfl (litFw (b := [100, 115, 116]) hw rfl rfl) ?_
  refine wpc_streq1 (b := false) rfl (litFw (b := [104, 111, 115, 116]) hw rfl rfl) ?_
  show wpc Try.prog tt [] _ _ _
  refine wpc_condI (b := false) rfl ?_
  refine wpc_seqI ?_
  refine wpc_streq (b := false) rfl (litFw (b := [115, 112, 111, 114, 116]) hw rfl rfl) ?_
  refine wpc_streq (b := true) rfl (litTw hw rfl) ?_
  refine wpc_skipI ?_
  show wpc Try.prog tt [] _ _ _
  refine wpc_condI (b := true) rfl ?_
  show wpc Try.prog tt [] _ _ _
  conv => whnf
  refine CallVC.obr hnum rfl rfl rfl ?_
  conv => whnf
  exact ⟨rfl, fun _ => rfl, rfl⟩
theorem fact10_obr (n : Nat) (hn : n ≤ 65535) (L : List (List Nat)) (d m : Nat) : ObR Try.prog 40 51 (rdX ([108, 101, 110] :: dgs n :: L) d m) [] (rdX L d m) FSt 37 3 fstD ([⟨10, 0, n⟩]) := by
  refine obROf _ (.inl rfl) [] Try.func40 rfl (by kernel_rfl) rfl (Nat.le_of_ble_eq_true rfl) ?_
  have hnum := numbers10_obr n hn L d m
  have hnx := next_ob [108, 101, 110] (dgs n :: L) d m (by decide)
  generalize hw : [108, 101, 110] = w at *
  conv => whnf
  refine CallVC.ob hnx rfl rfl rfl ?_
  rintro _ _ ⟨rfl, rfl⟩
  conv => whnf
  have hb := litFw (b := [110, 111, 116]) (y := ⟨#[110, 111, 116]⟩) hw rfl rfl
  generalize ((strB w).toList == (ByteArray.mk #[110, 111, 116]).toList) = b1 at hb ⊢
  subst hb
  show wpc Try.prog tt [] _ _ _
  refine wpc_streq (b := false) rfl (litFw (b := [40]) hw rfl rfl) ?_
  refine wpc_seqI ?_
  refine wpc_streq (b := false) rfl (litFw (b := [116, 99, 112]) hw rfl rfl) ?_
  refine wpc_streq (b := false) rfl (litFw (b := [117, 100, 112]) hw rfl rfl) ?_
  refine wpc_streq (b := false) rfl (litFw (b := [105, 99, 109, 112]) hw rfl rfl) ?_
  refine wpc_streq (b := false) rfl (litFw (b := [97, 110, 121]) hw rfl rfl) ?_
  refine wpc_streq1 (b := false) rfl (litFw (b := [115, 121, 110]) hw rfl rfl) ?_
  show wpc Try.prog tt [] _ _ _
  refine wpc_condI (b := false) rfl ?_
  refine wpc_seqI ?_
  refine wpc_streq (b := false) rfl (litFw (b := [115, 114, 99]) hw rfl rfl) ?_
  refine wpc_streq (b := false) rfl (litFw (b := [100, 115, 116]) hw rfl rfl) ?_
  refine wpc_streq1 (b := false) rfl (litFw (b := [104, 111, 115, 116]) hw rfl rfl) ?_
  show wpc Try.prog tt [] _ _ _
  refine wpc_condI (b := false) rfl ?_
  refine wpc_seqI ?_
  refine wpc_streq (b := false) rfl (litFw (b := [115, 112, 111, 114, 116]) hw rfl rfl) ?_
  refine wpc_streq (b := false) rfl (litFw (b := [100, 112, 111, 114, 116]) hw rfl rfl) ?_
  refine wpc_streq (b := true) rfl (litTw hw rfl) ?_
  refine wpc_skipI ?_
  show wpc Try.prog tt [] _ _ _
  refine wpc_condI (b := true) rfl ?_
  show wpc Try.prog tt [] _ _ _
  conv => whnf
  refine CallVC.obr hnum rfl rfl rfl ?_
  conv => whnf
  exact ⟨rfl, fun _ => rfl, rfl⟩
theorem fact5_obr (a n : Nat) (ha : a < 4294967296) (hn : n ≤ 32) (L : List (List Nat)) (d m : Nat) : ObR Try.prog 40 51 (rdX ([115, 114, 99] :: (txt a ++ 47 :: dgs n) :: L) d m) [] (rdX L d m) FSt 37 3 fstD ([⟨5, a, n⟩]) := by
  refine obROf _ (.inl rfl) [] Try.func40 rfl (by kernel_rfl) rfl (Nat.le_of_ble_eq_true rfl) ?_
  have hnum := nets5_obr a n ha hn L d m
  have hnx := next_ob [115, 114, 99] ((txt a ++ 47 :: dgs n) :: L) d m (by decide)
  generalize hw : [115, 114, 99] = w at *
  conv => whnf
  refine CallVC.ob hnx rfl rfl rfl ?_
  rintro _ _ ⟨rfl, rfl⟩
  conv => whnf
  have hb := litFw (b := [110, 111, 116]) (y := ⟨#[110, 111, 116]⟩) hw rfl rfl
  generalize ((strB w).toList == (ByteArray.mk #[110, 111, 116]).toList) = b1 at hb ⊢
  subst hb
  show wpc Try.prog tt [] _ _ _
  refine wpc_streq (b := false) rfl (litFw (b := [40]) hw rfl rfl) ?_
  refine wpc_seqI ?_
  refine wpc_streq (b := false) rfl (litFw (b := [116, 99, 112]) hw rfl rfl) ?_
  refine wpc_streq (b := false) rfl (litFw (b := [117, 100, 112]) hw rfl rfl) ?_
  refine wpc_streq (b := false) rfl (litFw (b := [105, 99, 109, 112]) hw rfl rfl) ?_
  refine wpc_streq (b := false) rfl (litFw (b := [97, 110, 121]) hw rfl rfl) ?_
  refine wpc_streq1 (b := false) rfl (litFw (b := [115, 121, 110]) hw rfl rfl) ?_
  show wpc Try.prog tt [] _ _ _
  refine wpc_condI (b := false) rfl ?_
  refine wpc_seqI ?_
  refine wpc_streq (b := true) rfl (litTw hw rfl) ?_
  refine wpc_skipI ?_
  show wpc Try.prog tt [] _ _ _
  refine wpc_condI (b := true) rfl ?_
  show wpc Try.prog tt [] _ _ _
  conv => whnf
  refine CallVC.obr hnum rfl rfl rfl ?_
  conv => whnf
  exact ⟨rfl, fun _ => rfl, rfl⟩
theorem fact6_obr (a n : Nat) (ha : a < 4294967296) (hn : n ≤ 32) (L : List (List Nat)) (d m : Nat) : ObR Try.prog 40 51 (rdX ([100, 115, 116] :: (txt a ++ 47 :: dgs n) :: L) d m) [] (rdX L d m) FSt 37 3 fstD ([⟨6, a, n⟩]) := by
  refine obROf _ (.inl rfl) [] Try.func40 rfl (by kernel_rfl) rfl (Nat.le_of_ble_eq_true rfl) ?_
  have hnum := nets6_obr a n ha hn L d m
  have hnx := next_ob [100, 115, 116] ((txt a ++ 47 :: dgs n) :: L) d m (by decide)
  generalize hw : [100, 115, 116] = w at *
  conv => whnf
  refine CallVC.ob hnx rfl rfl rfl ?_
  rintro _ _ ⟨rfl, rfl⟩
  conv => whnf
  have hb := litFw (b := [110, 111, 116]) (y := ⟨#[110, 111, 116]⟩) hw rfl rfl
  generalize ((strB w).toList == (ByteArray.mk #[110, 111, 116]).toList) = b1 at hb ⊢
  subst hb
  show wpc Try.prog tt [] _ _ _
  refine wpc_streq (b := false) rfl (litFw (b := [40]) hw rfl rfl) ?_
  refine wpc_seqI ?_
  refine wpc_streq (b := false) rfl (litFw (b := [116, 99, 112]) hw rfl rfl) ?_
  refine wpc_streq (b := false) rfl (litFw (b := [117, 100, 112]) hw rfl rfl) ?_
  refine wpc_streq (b := false) rfl (litFw (b := [105, 99, 109, 112]) hw rfl rfl) ?_
  refine wpc_streq (b := false) rfl (litFw (b := [97, 110, 121]) hw rfl rfl) ?_
  refine wpc_streq1 (b := false) rfl (litFw (b := [115, 121, 110]) hw rfl rfl) ?_
  show wpc Try.prog tt [] _ _ _
  refine wpc_condI (b := false) rfl ?_
  refine wpc_seqI ?_
  refine wpc_streq (b := false) rfl (litFw (b := [115, 114, 99]) hw rfl rfl) ?_
  refine wpc_streq (b := true) rfl (litTw hw rfl) ?_
  refine wpc_skipI ?_
  show wpc Try.prog tt [] _ _ _
  refine wpc_condI (b := true) rfl ?_
  show wpc Try.prog tt [] _ _ _
  conv => whnf
  refine CallVC.obr hnum rfl rfl rfl ?_
  conv => whnf
  exact ⟨rfl, fun _ => rfl, rfl⟩
theorem fact_no {A B : List (List Nat)} {d m m1 : Nat} {F1 : List FSt} (hd : d ≤ 1000000) (hm : m ≤ 1000000) (hl : F1.length ≤ 100000) (h1 : ObR Try.prog 40 51 (rdX A (d + 1) (max m (d + 1))) [] (rdX B (d + 1) m1) FSt 37 3 fstD F1) : ObR Try.prog 40 51 (rdX (notW :: A) d m) [] (rdX B d m1) FSt 37 3 fstD (F1 ++ [opSt 13]) := by
  refine obROf _ (.inl rfl) [] Try.func40 rfl (by kernel_rfl) rfl (Nat.le_of_ble_eq_true rfl) ?_
  have e0 := wrapN (n := d) (by omega)
  have e1 : IntKind.i64.wrap (((d + 1 : Nat) : Int) - 1) = (d : Int) := by rw [IntWalk.i64_in _ (by omega)]; omega
  have e2 : max (m : Int) ((d + 1 : Nat) : Int) = ((max m (d + 1) : Nat) : Int) := by omega
  have hnx := next_ob notW (A) d m (by decide)
  generalize hw : notW = w at *
  conv => whnf
  refine CallVC.ob hnx rfl rfl rfl ?_
  rintro _ _ ⟨rfl, rfl⟩
  conv => whnf
  have hb := litTw (y := ⟨#[110, 111, 116]⟩) hw rfl
  generalize ((strB w).toList == (ByteArray.mk #[110, 111, 116]).toList) = b1 at hb ⊢
  subst hb
  show wpc Try.prog tt [] _ _ _
  conv => whnf
  refine goIn [] Try.func48 rfl (by kernel_rfl) (Nat.le_of_ble_eq_true rfl) ?_
  conv => whnf
  refine CallVC.obr h1 ?_ rfl rfl ?_
  · show some (LO.cells 51 [rowsW A, .v (.int .i64 (IntKind.i64.wrap ((d : Int) + 1))), .v (.int .i64 (max (m : Int) (IntKind.i64.wrap ((d : Int) + 1)))), boolD false]) = _
    rw [e0, e2]
  conv => whnf
  refine ⟨by decide, ?_⟩
  conv => whnf
  refine ⟨FSt, fstD, F1 ++ [opSt 13], by rw [List.map_append]; rfl, fun _ => rfl, by simp only [List.length_append, List.length_singleton]; omega, by simp only [List.length_append, List.length_singleton]; show (F1.length + 1) * 24 ≤ _; omega, rfl, ?_⟩
  conv => whnf
  refine ⟨?_, fun _ => rfl, rfl⟩
  show [rowsW B, .v (.int .i64 (IntKind.i64.wrap (((d + 1 : Nat) : Int) - 1))), intD m1, boolD false] = _
  rw [e1]
theorem fact_in {A B : List (List Nat)} {d m m1 : Nat} {F1 : List FSt} (hd : d ≤ 1000000) (hm : m ≤ 1000000) (h1 : ObR Try.prog 20 51 (rdX A (d + 1) (max m (d + 1))) [] (rdX ([41] :: B) (d + 1) m1) FSt 37 3 fstD F1) : ObR Try.prog 40 51 (rdX ([40] :: A) d m) [] (rdX B d m1) FSt 37 3 fstD (F1) := by
  refine obROf _ (.inl rfl) [] Try.func40 rfl (by kernel_rfl) rfl (Nat.le_of_ble_eq_true rfl) ?_
  have e0 := wrapN (n := d) (by omega)
  have e1 : IntKind.i64.wrap (((d + 1 : Nat) : Int) - 1) = (d : Int) := by rw [IntWalk.i64_in _ (by omega)]; omega
  have e2 : max (m : Int) ((d + 1 : Nat) : Int) = ((max m (d + 1) : Nat) : Int) := by omega
  have hny := next_ob [41] B d m1 (by decide)
  have hnx := next_ob [40] (A) d m (by decide)
  generalize hw : [40] = w at *
  conv => whnf
  refine CallVC.ob hnx rfl rfl rfl ?_
  rintro _ _ ⟨rfl, rfl⟩
  conv => whnf
  have hb := litFw (b := [110, 111, 116]) (y := ⟨#[110, 111, 116]⟩) hw rfl rfl
  generalize ((strB w).toList == (ByteArray.mk #[110, 111, 116]).toList) = b1 at hb ⊢
  subst hb
  show wpc Try.prog tt [] _ _ _
  refine wpc_streq (b := true) rfl (litTw hw rfl) ?_
  show wpc Try.prog tt [] _ _ _
  conv => whnf
  refine goIn [] Try.func48 rfl (by kernel_rfl) (Nat.le_of_ble_eq_true rfl) ?_
  conv => whnf
  refine CallVC.obr h1 ?_ rfl rfl ?_
  · show some (LO.cells 51 [rowsW A, .v (.int .i64 (IntKind.i64.wrap ((d : Int) + 1))), .v (.int .i64 (max (m : Int) (IntKind.i64.wrap ((d : Int) + 1)))), boolD false]) = _
    rw [e0, e2]
  conv => whnf
  refine CallVC.ob hny ?_ rfl rfl ?_
  · show some (LO.cells 51 [rowsW ([41] :: B), .v (.int .i64 (IntKind.i64.wrap (((d + 1 : Nat) : Int) - 1))), intD m1, boolD false]) = _
    rw [e1]
  rintro _ _ ⟨rfl, rfl⟩
  conv => whnf
  refine ⟨?_, fun _ => rfl, rfl⟩
  show [rowsW B, intD d, intD m1, .v (.bool (!((strB [41]).toList == (ByteArray.mk #[41]).toList)))] = _
  rw [litT (a := [41]) (x := strB [41]) (y := ⟨#[41]⟩) rfl rfl]
  rfl
end Go.Proofs.Ytfghccppoilfhaa.V
namespace Go.Proofs.Ytfghccppoilfhaa.V
open Go.RowKit
attribute [local irreducible] Fn FnN FnR Ob ObR OpVC DLe

theorem byt41 : Byt [41] := low_byt (lit_low (by decide))
theorem bytOr : Byt orW := low_byt (lit_low (by decide))
theorem fact_obr : ∀ t : FT, t.ok → (∀ x, x ∈ t.flat → x.addr < 4294967296) → t.flat.length ≤ 100000 → ∀ (L : List (List Nat)) (d m : Nat), d ≤ m → m ≤ 1000000 → d + t.deep ≤ 1000000 →
    ObR Try.prog 40 51 (rdX (t.words ++ L) d m) [] (rdX L d (max m (d + t.deep))) FSt 37 3 fstD t.flat
  | .leaf ⟨op, a, n⟩, h, ha, _, L, d, m, hdm, _, _ => by
    obtain ⟨hb, h1, h2⟩ := h
    have hax := ha ⟨op, a, n⟩ (List.mem_singleton.2 rfl)
    have hn := bare_num hb
    have hz := bare_zero hb
    have hm : max m (d + (FT.leaf ⟨op, a, n⟩).deep) = m := by show max m (d + 0) = m; omega
    rw [hm]
    clear hm hb
    dsimp only at h1 h2 hn hz hax
    obtain ⟨k, rfl⟩ := Int.eq_ofNat_of_zero_le hn.1
    rcases (by omega : op = 1 ∨ op = 2 ∨ op = 3 ∨ op = 4 ∨ op = 5 ∨ op = 6 ∨ op = 7 ∨ op = 8 ∨ op = 9 ∨ op = 10) with rfl | rfl | rfl | rfl | rfl | rfl | rfl | rfl | rfl | rfl
    · obtain rfl : a = 0 := hz.1 rfl
      obtain rfl : k = 0 := by have := hz.2 rfl rfl; omega
      exact fact1_obr L d m
    · obtain rfl : a = 0 := hz.1 rfl
      obtain rfl : k = 0 := by have := hz.2 rfl rfl; omega
      exact fact2_obr L d m
    · obtain rfl : a = 0 := hz.1 rfl
      obtain rfl : k = 0 := by have := hz.2 rfl rfl; omega
      exact fact3_obr L d m
    · obtain rfl : a = 0 := hz.1 rfl
      obtain rfl : k = 0 := by have := hz.2 rfl rfl; omega
      exact fact4_obr L d m
    · exact fact5_obr a k hax (by have := hn.2.2 rfl; omega) L d m
    · exact fact6_obr a k hax (by have := hn.2.2 rfl; omega) L d m
    · obtain rfl : a = 0 := hz.1 rfl
      exact fact7_obr k (by omega) L d m
    · obtain rfl : a = 0 := hz.1 rfl
      exact fact8_obr k (by omega) L d m
    · obtain rfl : a = 0 := hz.1 rfl
      obtain rfl : k = 0 := by have := hz.2 rfl rfl; omega
      exact fact9_obr L d m
    · obtain rfl : a = 0 := hz.1 rfl
      exact fact10_obr k (by omega) L d m
  | .no t, h, ha, hl, L, d, m, hdm, hm, hd => by
    have hl' : t.flat.length + 1 ≤ 100000 := by simpa [FT.flat] using hl
    have hd' : d + (t.deep + 1) ≤ 1000000 := hd
    have h1 := fact_obr t h (fun x hx => ha x (List.mem_append_left _ hx)) (by omega) L (d + 1) (max m (d + 1)) (by omega) (by omega) (by omega)
    have h2 := fact_no (d := d) (m := m) (by omega) hm (by omega) h1
    rw [show max (max m (d + 1)) (d + 1 + t.deep) = max m (d + (FT.no t).deep) by show _ = max m (d + (t.deep + 1)); omega] at h2
    exact h2
  | .an l r, h, ha, hl, L, d, m, hdm, hm, hd => by
    have hl' : l.flat.length + (r.flat.length + 1) ≤ 100000 := by simpa [FT.flat] using hl
    have hd' : d + (max l.deep r.deep + 1) ≤ 1000000 := hd
    have h1 := fact_obr l h.1 (fun x hx => ha x (List.mem_append_left _ hx)) (by omega) (andW :: (r.words ++ [41] :: L)) (d + 1) (max m (d + 1)) (by omega) (by omega) (by omega)
    have h2 := fact_obr r h.2 (fun x hx => ha x (List.mem_append_right _ (List.mem_append_left _ hx))) (by omega) ([41] :: L) (d + 1) (max (max m (d + 1)) (d + 1 + l.deep)) (by omega) (by omega) (by omega)
    have h3 := expr_one (term_two h1 h2 (show [41] ≠ andW by decide) byt41 (by omega) (by omega)) (show [41] ≠ orW by decide) byt41
    have h4 := fact_in (d := d) (m := m) (by omega) hm h3
    rw [show max (max (max m (d + 1)) (d + 1 + l.deep)) (d + 1 + r.deep) = max m (d + (FT.an l r).deep) by show _ = max m (d + (max l.deep r.deep + 1)); omega] at h4
    rw [show (FT.an l r).words ++ L = [40] :: (l.words ++ andW :: (r.words ++ [41] :: L)) by show ([40] :: (l.words ++ (andW :: (r.words ++ [[41]])))) ++ L = _; simp only [List.cons_append, List.append_assoc, List.nil_append]]
    rw [List.append_assoc] at h4
    exact h4
  | .or l r, h, ha, hl, L, d, m, hdm, hm, hd => by
    have hl' : l.flat.length + (r.flat.length + 1) ≤ 100000 := by simpa [FT.flat] using hl
    have hd' : d + (max l.deep r.deep + 1) ≤ 1000000 := hd
    have h1 := fact_obr l h.1 (fun x hx => ha x (List.mem_append_left _ hx)) (by omega) (orW :: (r.words ++ [41] :: L)) (d + 1) (max m (d + 1)) (by omega) (by omega) (by omega)
    have h2 := fact_obr r h.2 (fun x hx => ha x (List.mem_append_right _ (List.mem_append_left _ hx))) (by omega) ([41] :: L) (d + 1) (max (max m (d + 1)) (d + 1 + l.deep)) (by omega) (by omega) (by omega)
    have h3 := expr_two (term_one h1 (show orW ≠ andW by decide) bytOr) (term_one h2 (show [41] ≠ andW by decide) byt41) (show [41] ≠ orW by decide) byt41 (by omega) (by omega)
    have h4 := fact_in (d := d) (m := m) (by omega) hm h3
    rw [show max (max (max m (d + 1)) (d + 1 + l.deep)) (d + 1 + r.deep) = max m (d + (FT.or l r).deep) by show _ = max m (d + (max l.deep r.deep + 1)); omega] at h4
    rw [show (FT.or l r).words ++ L = [40] :: (l.words ++ orW :: (r.words ++ [41] :: L)) by show ([40] :: (l.words ++ (orW :: (r.words ++ [[41]])))) ++ L = _; simp only [List.cons_append, List.append_assoc, List.nil_append]]
    rw [List.append_assoc] at h4
    exact h4
theorem expr_obr (t : FT) (h : t.ok) (ha : ∀ x, x ∈ t.flat → x.addr < 4294967296) (hl : t.flat.length ≤ 100000) (hd : t.deep ≤ 100000) :
    ObR Try.prog 20 51 (rdX t.words 0 0) [] (rdX [] 0 t.deep) FSt 37 3 fstD t.flat := by
  have h1 := fact_obr t h ha hl [] 0 0 (by omega) (by omega) (by omega)
  rw [List.append_nil, show max 0 (0 + t.deep) = t.deep by omega] at h1
  exact expr_one (term_one h1 (show ([] : List Nat) ≠ andW by decide) (fun _ hc => by cases hc)) (show ([] : List Nat) ≠ orW by decide) (fun _ hc => by cases hc)
end Go.Proofs.Ytfghccppoilfhaa.V
namespace Go.Proofs.Ytfghccppoilfhaa.V
open Go.RowKit
attribute [local irreducible] Fn FnN FnR Ob ObR OpVC DLe

theorem parseF_fn (t : FT) (h : t.ok) (ha : ∀ x, x ∈ t.flat → x.addr < 4294967296) (hl : t.flat.length ≤ 100) (hd : t.deep ≤ 20) (hx : t.text.length ≤ 1000) : Fn Try.prog 10 [strD t.text] fun d => d = .tup [.rows FSt 3 fstD t.flat, intD 0] := by
  refine fnOf [] Try.func10 rfl (by kernel_rfl) (Nat.le_of_ble_eq_true rfl) ?_
  have hw := words_fn t.text (FT.text_low t h) (by omega)
  rw [words_text t h [], List.nil_append] at hw
  have he := expr_obr t h ha (by omega) (by omega)
  have hsz := strB_size t.text
  conv => whnf
  refine Fork.intro (fun q1 => ?_) (fun q1 => ?_)
  · exact absurd (of_decide_eq_true q1) (by omega)
  conv => whnf
  (refine CallVC.pure (hw) rfl ?_; rintro _ rfl; conv => whnf)
  refine CallVC.obr he rfl rfl rfl ?_
  conv => whnf
  refine Fork.intro (fun q2 => ?_) (fun q2 => ?_)
  · exact absurd (of_decide_eq_true q2) (by omega)
  conv => whnf
  refine Fork.intro (fun q3 => ?_) (fun q3 => ?_)
  · exact absurd (of_decide_eq_true q3) (by omega)
  conv => whnf
  rfl
end Go.Proofs.Ytfghccppoilfhaa.V
