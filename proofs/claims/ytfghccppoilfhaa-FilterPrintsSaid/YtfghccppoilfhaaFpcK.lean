/-
  What a part of a filter is as a text, how deep it is: the document's, by value. Conditions: numbers of their types.
-/
import Derived.Test.YtfghccppoilfhaaK8
import Derived.Test.YtfghccppoilfhaaK7
namespace Go.Proofs.Ytfghccppoilfhaa.V
open Go.RowKit
attribute [local irreducible] Fn FnN FnR OpVC DLe

theorem digitsR_fn (n : Nat) (h : n < 4294967296) : Fn Try.prog 17 [.v (.int .u32 n)] fun d => d = strD (dgs n) := by
  refine fnOf [] Try.func17 rfl (by kernel_rfl) (Nat.le_of_ble_eq_true rfl) ?_
  have hlen := dgs_len 9 n (by omega)
  conv => whnf
  refine ⟨Nat × List Nat, fun g => ⟨[(3, strD g.2), (0, .v (.int .u32 g.1))], [], 0, ([], 0)⟩, fun g => g.1 ≤ n ∧ dgs n = dgs g.1 ++ g.2, fun g => g.1, ⟨(n, []), [], [], ?_, Nat.le_refl _, (List.append_nil _).symm⟩, ?_⟩
  · repeat' (first | exact trivial | exact .inl (DLe.refl _) | exact .inl (DLe.nil _ _) | (refine .inr ⟨rfl, _, ?_, rfl⟩; rfl) | exact rfl | exact .inl rfl | exact .inr ⟨rfl, rfl, rfl, rfl⟩ | exact Nat.zero_le _ | constructor)
  · rintro ⟨m, out⟩ ⟨hm, he⟩
    dsimp only at hm he
    have ho : out.length ≤ 10 := by have := congrArg List.length he; rw [List.length_append] at this; omega
    dsimp only
    conv => whnf
    refine Fork.intro (fun h1 => ?_) (fun h1 => ?_)
    · have h1 := of_decide_eq_true h1
      have e1 : IntKind.u8.wrap (IntKind.u32.wrap (48 + (m : Int).tmod 10)) = ((48 + m % 10 : Nat) : Int) := by
        rw [Int.tmod_eq_emod_of_nonneg (by omega), u32_small (by omega), u8_small (by omega)]; omega
      have e2 : IntKind.u32.wrap ((m : Int).tdiv 10) = ((m / 10 : Nat) : Int) := by
        rw [Int.tdiv_eq_ediv_of_nonneg (by omega), u32_small (by omega)]; omega
      conv => whnf
      refine ⟨by decide, ?_⟩
      conv => whnf
      (refine ⟨by decide, ?_⟩; conv => whnf)
      refine op_bytesStr (L := [((48 + m % 10 : Nat) : Int)]) ttH rfl rfl rfl rfl ?_ rfl ?_
      · exact congrArg (fun x => some [[u8D x]]) e1
      rw [bytesOf_str, show [((48 + m % 10 : Nat) : Int)].map Int.toNat = [48 + m % 10] from rfl]
      conv => whnf
      refine ⟨str_le (by simp; omega), ?_⟩
      rw [strB_append]
      conv => whnf
      refine ⟨by decide, ?_⟩
      conv => whnf
      rw [e2]
      refine ⟨(m / 10, (48 + m % 10) :: out), [], [], ?_, ⟨by show m / 10 ≤ n; omega, ?_⟩, by show m / 10 < m; omega⟩
      · repeat' (first | exact trivial | exact .inl (DLe.refl _) | exact .inl (DLe.nil _ _) | (refine .inr ⟨rfl, _, ?_, rfl⟩; rfl) | exact rfl | exact .inl rfl | exact .inr ⟨rfl, rfl, rfl, rfl⟩ | exact Nat.zero_le _ | constructor)
      · show dgs n = dgs (m / 10) ++ (48 + m % 10) :: out
        rw [he, dgs_ge (n := m) (by omega)]; simp
    · have h1 := of_decide_eq_false h1
      have e1 : IntKind.u8.wrap (IntKind.u32.wrap (48 + (m : Int))) = ((48 + m : Nat) : Int) := by
        rw [u32_small (by omega), u8_small (by omega)]; omega
      conv => whnf
      (refine ⟨by decide, ?_⟩; conv => whnf)
      refine op_bytesStr (L := [((48 + m : Nat) : Int)]) ttH rfl rfl rfl rfl ?_ rfl ?_
      · exact congrArg (fun x => some [[u8D x]]) e1
      rw [bytesOf_str, show [((48 + m : Nat) : Int)].map Int.toNat = [48 + m] from rfl]
      conv => whnf
      refine ⟨str_le (by simp; omega), ?_⟩
      rw [strB_append]
      conv => whnf
      rw [he, dgs_lt (n := m) (by omega)]
theorem tree_last (t : FT) (f pre post : List FSt) (he : f = pre ++ (t.flat ++ post)) (n : Nat) (hn : n + 1 = pre.length + t.flat.length) : f[n]? = some t.unl.1 := by
  rw [FT.unl_flat, List.length_append, List.length_singleton] at hn
  rw [he, FT.unl_flat, List.getElem?_append_right (by omega), List.append_assoc, List.getElem?_append_right (by omega), show n - pre.length - (flats t.unl.2).length = 0 by omega]
  rfl
set_option maxHeartbeats 4000000 in
theorem print45_fn : ∀ (t : FT), t.ok → ∀ (f pre post : List FSt), f = pre ++ (t.flat ++ post) → f.length ≤ 1000 → (∀ x, x ∈ f → x.addr < 4294967296) → t.text.length ≤ 100000 → ∀ z : Int, z + 1 = ((pre.length + t.flat.length : Nat) : Int) → Fn Try.prog 8 [rowsF f, intD z] fun d => d = strD t.text := by
  intro t
  induction t with
  | leaf x =>
    intro ht f pre post he hfl hfa hbg z hz
    refine fnOf [(4, [0, 1, 2, 3, 4, 5, 6, 10, 11, 12, 7, 8, 9, 13, 14, 15])] Try.func8 rfl (by kernel_rfl) (Nat.le_of_ble_eq_true rfl) ?_
    obtain ⟨n, hn⟩ : ∃ n : Nat, z = (n : Int) := ⟨pre.length, by rw [show (FT.leaf x).flat.length = 1 from rfl] at hz; omega⟩
    subst hn
    have hge := tree_last (.leaf x) f pre post he n (by omega)
    replace hge : f[n]? = some x := hge
    have hnl : n < f.length := (List.getElem?_eq_some_iff.1 hge).1
    have xop : ∀ (y : FSt), f[Int.toNat (n : Int)]? = some y → x = y := fun y hy => Option.some.inj (hge.symm.trans hy)
    have ha := hfa x (List.mem_of_getElem? hge)
    obtain ⟨hb, h1, h2⟩ := ht
    obtain ⟨n0, n1, n2⟩ := bare_num hb
    clear hbg hge he hfa hz
    obtain ⟨op, a, m⟩ := x
    dsimp only at h1 h2 n0 n1 n2 ha
    obtain ⟨m, rfl⟩ : ∃ k : Nat, m = (k : Int) := ⟨m.toNat, by omega⟩
    have hd := digitsR_fn m (by omega)
    have htx := rtext_fn a ha
    have ld := dgs_short (n := m) (by omega)
    have lt := txt_len a
    have e : (m : Int).toNat = m := rfl
    have e3 : IntKind.u32.wrap (m : Int) = (m : Int) := u32_small (by omega)
    unfold FT.text oneT netT
    dsimp only
    rw [e]
    generalize txt a = ta at *
    generalize dgs m = dn at *
    by_cases q1 : op = 5 ∨ op = 6
    · rcases q1 with rfl | rfl
      · skip
        conv => whnf
        refine ⟨rfl, ⟨by omega, by omega⟩, fun y hy => ?_⟩
        obtain rfl := xop y hy
        conv => whnf
        (refine ⟨by decide, ?_⟩; conv => whnf)
        refine ⟨rfl, ?_⟩
        conv => whnf
        rw [e3]
        conv => whnf
        (refine CallVC.pure (htx) rfl ?_; rintro _ rfl; conv => whnf)
        (refine ⟨le_str (x := ⟨#[115, 114, 99, 32]⟩) (y := strB (ta)) (a := [115, 114, 99, 32]) (b := ta) rfl rfl (by simp; omega), ?_⟩; rw [app_str (x := ⟨#[115, 114, 99, 32]⟩) (y := strB (ta)) (a := [115, 114, 99, 32]) (b := ta) rfl rfl]; conv => whnf)
        (refine ⟨le_str (x := strB ([115, 114, 99, 32] ++ ta)) (y := ⟨#[47]⟩) (a := [115, 114, 99, 32] ++ ta) (b := [47]) rfl rfl (by simp; omega), ?_⟩; rw [app_str (x := strB ([115, 114, 99, 32] ++ ta)) (y := ⟨#[47]⟩) (a := [115, 114, 99, 32] ++ ta) (b := [47]) rfl rfl]; conv => whnf)
        (refine CallVC.pure (hd) rfl ?_; rintro _ rfl; conv => whnf)
        (refine ⟨le_str (x := strB ([115, 114, 99, 32] ++ ta ++ [47])) (y := strB (dn)) (a := [115, 114, 99, 32] ++ ta ++ [47]) (b := dn) rfl rfl (by simp; omega), ?_⟩; rw [app_str (x := strB ([115, 114, 99, 32] ++ ta ++ [47])) (y := strB (dn)) (a := [115, 114, 99, 32] ++ ta ++ [47]) (b := dn) rfl rfl]; conv => whnf)
        simp only [List.append_assoc, List.cons_append, List.nil_append]
        rfl
      · skip
        conv => whnf
        refine ⟨rfl, ⟨by omega, by omega⟩, fun y hy => ?_⟩
        obtain rfl := xop y hy
        conv => whnf
        (refine ⟨by decide, ?_⟩; conv => whnf)
        refine ⟨rfl, ?_⟩
        conv => whnf
        rw [e3]
        conv => whnf
        (refine CallVC.pure (htx) rfl ?_; rintro _ rfl; conv => whnf)
        (refine ⟨le_str (x := ⟨#[100, 115, 116, 32]⟩) (y := strB (ta)) (a := [100, 115, 116, 32]) (b := ta) rfl rfl (by simp; omega), ?_⟩; rw [app_str (x := ⟨#[100, 115, 116, 32]⟩) (y := strB (ta)) (a := [100, 115, 116, 32]) (b := ta) rfl rfl]; conv => whnf)
        (refine ⟨le_str (x := strB ([100, 115, 116, 32] ++ ta)) (y := ⟨#[47]⟩) (a := [100, 115, 116, 32] ++ ta) (b := [47]) rfl rfl (by simp; omega), ?_⟩; rw [app_str (x := strB ([100, 115, 116, 32] ++ ta)) (y := ⟨#[47]⟩) (a := [100, 115, 116, 32] ++ ta) (b := [47]) rfl rfl]; conv => whnf)
        (refine CallVC.pure (hd) rfl ?_; rintro _ rfl; conv => whnf)
        (refine ⟨le_str (x := strB ([100, 115, 116, 32] ++ ta ++ [47])) (y := strB (dn)) (a := [100, 115, 116, 32] ++ ta ++ [47]) (b := dn) rfl rfl (by simp; omega), ?_⟩; rw [app_str (x := strB ([100, 115, 116, 32] ++ ta ++ [47])) (y := strB (dn)) (a := [100, 115, 116, 32] ++ ta ++ [47]) (b := dn) rfl rfl]; conv => whnf)
        simp only [List.append_assoc, List.cons_append, List.nil_append]
        rfl
    by_cases q2 : op = 7 ∨ op = 8 ∨ op = 10
    · rcases q2 with rfl | rfl | rfl
      · skip
        conv => whnf
        refine ⟨rfl, ⟨by omega, by omega⟩, fun y hy => ?_⟩
        obtain rfl := xop y hy
        conv => whnf
        (refine ⟨by decide, ?_⟩; conv => whnf)
        refine ⟨rfl, ?_⟩
        conv => whnf
        rw [e3]
        conv => whnf
        (refine CallVC.pure (hd) rfl ?_; rintro _ rfl; conv => whnf)
        (refine ⟨le_str (x := ⟨#[115, 112, 111, 114, 116, 32]⟩) (y := strB (dn)) (a := [115, 112, 111, 114, 116, 32]) (b := dn) rfl rfl (by simp; omega), ?_⟩; rw [app_str (x := ⟨#[115, 112, 111, 114, 116, 32]⟩) (y := strB (dn)) (a := [115, 112, 111, 114, 116, 32]) (b := dn) rfl rfl]; conv => whnf)
        try rfl
      · skip
        conv => whnf
        refine ⟨rfl, ⟨by omega, by omega⟩, fun y hy => ?_⟩
        obtain rfl := xop y hy
        conv => whnf
        (refine ⟨by decide, ?_⟩; conv => whnf)
        refine ⟨rfl, ?_⟩
        conv => whnf
        rw [e3]
        conv => whnf
        (refine CallVC.pure (hd) rfl ?_; rintro _ rfl; conv => whnf)
        (refine ⟨le_str (x := ⟨#[100, 112, 111, 114, 116, 32]⟩) (y := strB (dn)) (a := [100, 112, 111, 114, 116, 32]) (b := dn) rfl rfl (by simp; omega), ?_⟩; rw [app_str (x := ⟨#[100, 112, 111, 114, 116, 32]⟩) (y := strB (dn)) (a := [100, 112, 111, 114, 116, 32]) (b := dn) rfl rfl]; conv => whnf)
        try rfl
      · skip
        conv => whnf
        refine ⟨rfl, ⟨by omega, by omega⟩, fun y hy => ?_⟩
        obtain rfl := xop y hy
        conv => whnf
        (refine ⟨by decide, ?_⟩; conv => whnf)
        refine ⟨rfl, ?_⟩
        conv => whnf
        rw [e3]
        conv => whnf
        (refine CallVC.pure (hd) rfl ?_; rintro _ rfl; conv => whnf)
        (refine ⟨le_str (x := ⟨#[108, 101, 110, 32]⟩) (y := strB (dn)) (a := [108, 101, 110, 32]) (b := dn) rfl rfl (by simp; omega), ?_⟩; rw [app_str (x := ⟨#[108, 101, 110, 32]⟩) (y := strB (dn)) (a := [108, 101, 110, 32]) (b := dn) rfl rfl]; conv => whnf)
        try rfl
    rcases (by omega : op = 1 ∨ op = 2 ∨ op = 3 ∨ op = 4 ∨ op = 9) with rfl | rfl | rfl | rfl | rfl
    all_goals
      conv => whnf
      refine ⟨rfl, ⟨by omega, by omega⟩, fun y hy => ?_⟩
      obtain rfl := xop y hy
      conv => whnf
      (refine ⟨by decide, ?_⟩; conv => whnf)
      refine ⟨rfl, ?_⟩
      conv => whnf
      try rfl
  | no u ih =>
    intro ht f pre post he hfl hfa hbg z hz
    refine fnOf [(4, [0, 1, 2, 3, 4, 5, 6, 10, 11, 12, 7, 8, 9, 13, 14, 15])] Try.func8 rfl (by kernel_rfl) (Nat.le_of_ble_eq_true rfl) ?_
    have hfl2 : (FT.no u).flat.length = u.flat.length + 1 := by rw [FT.flat, List.length_append, List.length_singleton]
    obtain ⟨n, hn⟩ : ∃ n : Nat, z = (n : Int) := ⟨pre.length + u.flat.length, by omega⟩
    subst hn
    have hge := tree_last (.no u) f pre post he n (by omega)
    replace hge : f[n]? = some (opSt 13) := hge
    have hnl : n < f.length := (List.getElem?_eq_some_iff.1 hge).1
    have xop : ∀ (y : FSt), f[Int.toNat (n : Int)]? = some y → opSt 13 = y := fun y hy => Option.some.inj (hge.symm.trans hy)
    have hi := ih ht f pre (opSt 13 :: post) (by rw [he, FT.flat, List.append_assoc]; rfl) hfl hfa (by unfold FT.text at hbg; simp at hbg; omega) ((n : Int) - 1) (by omega)
    have e1 : IntKind.i64.wrap ((n : Int) - 1) = (n : Int) - 1 := IntWalk.i64_in _ (by omega)
    unfold FT.text at hbg ⊢
    simp at hbg
    conv => whnf
    refine ⟨rfl, ⟨by omega, by omega⟩, fun y hy => ?_⟩
    obtain rfl := xop y hy
    conv => whnf
    (refine ⟨by decide, ?_⟩; conv => whnf)
    rw [e1]
    (refine CallVC.pure (hi) rfl ?_; rintro _ rfl; conv => whnf)
    (refine ⟨le_str (x := ⟨#[110, 111, 116, 32]⟩) (y := strB (FT.text u)) (a := [110, 111, 116, 32]) (b := FT.text u) rfl rfl (by simp; omega), ?_⟩; rw [app_str (x := ⟨#[110, 111, 116, 32]⟩) (y := strB (FT.text u)) (a := [110, 111, 116, 32]) (b := FT.text u) rfl rfl]; conv => whnf)
    try rfl
  | an l r ih1 ih2 =>
    intro ht f pre post he hfl hfa hbg z hz
    refine fnOf [(4, [0, 1, 2, 3, 4, 5, 6, 10, 11, 12, 7, 8, 9, 13, 14, 15])] Try.func8 rfl (by kernel_rfl) (Nat.le_of_ble_eq_true rfl) ?_
    have hfl2 : (FT.an l r).flat.length = l.flat.length + r.flat.length + 1 := by rw [FT.flat, List.length_append, List.length_append, List.length_singleton]; omega
    obtain ⟨n, hn⟩ : ∃ n : Nat, z = (n : Int) := ⟨pre.length + (l.flat.length + r.flat.length), by omega⟩
    subst hn
    have hge := tree_last (.an l r) f pre post he n (by omega)
    replace hge : f[n]? = some (opSt 11) := hge
    have hnl : n < f.length := (List.getElem?_eq_some_iff.1 hge).1
    have xop : ∀ (y : FSt), f[Int.toNat (n : Int)]? = some y → opSt 11 = y := fun y hy => Option.some.inj (hge.symm.trans hy)
    have er : f = (pre ++ l.flat) ++ (r.flat ++ (opSt 11 :: post)) := by rw [he, FT.flat]; simp only [List.append_assoc, List.singleton_append]
    have hpl : (pre ++ l.flat).length = pre.length + l.flat.length := List.length_append
    have hir := ih2 ht.2 f (pre ++ l.flat) (opSt 11 :: post) er hfl hfa (by unfold FT.text at hbg; simp at hbg; omega) ((n : Int) - 1) (by omega)
    have hil := ih1 ht.1 f pre (r.flat ++ (opSt 11 :: post)) (by rw [er, List.append_assoc]) hfl hfa (by unfold FT.text at hbg; simp at hbg; omega) (((pre ++ l.flat).length : Int) - 1) (by omega)
    have hpt := part45_fn f (pre ++ l.flat) (opSt 11 :: post) r ht.2 er hfl ((n : Int) - 1) (by omega)
    have e1 : IntKind.i64.wrap ((n : Int) - 1) = (n : Int) - 1 := IntWalk.i64_in _ (by omega)
    have e2 : IntKind.i64.wrap (((pre ++ l.flat).length : Int) - 1) = ((pre ++ l.flat).length : Int) - 1 := IntWalk.i64_in _ (by omega)
    unfold FT.text at hbg ⊢
    simp at hbg
    conv => whnf
    refine ⟨rfl, ⟨by omega, by omega⟩, fun y hy => ?_⟩
    obtain rfl := xop y hy
    conv => whnf
    (refine ⟨by decide, ?_⟩; conv => whnf)
    rw [e1]
    (refine CallVC.pure (hir) rfl ?_; rintro _ rfl; conv => whnf)
    rw [e1]
    (refine CallVC.pure (hpt) rfl ?_; rintro _ rfl; conv => whnf)
    rw [e2]
    (refine CallVC.pure (hil) rfl ?_; rintro _ rfl; conv => whnf)
    generalize FT.text l = tl at *
    generalize FT.text r = tr at *
    (refine ⟨le_str (x := ⟨#[40]⟩) (y := strB (tl)) (a := [40]) (b := tl) rfl rfl (by simp; omega), ?_⟩; rw [app_str (x := ⟨#[40]⟩) (y := strB (tl)) (a := [40]) (b := tl) rfl rfl]; conv => whnf)
    (refine ⟨le_str (x := strB ([40] ++ tl)) (y := ⟨#[32, 97, 110, 100, 32]⟩) (a := [40] ++ tl) (b := [32, 97, 110, 100, 32]) rfl rfl (by simp; omega), ?_⟩; rw [app_str (x := strB ([40] ++ tl)) (y := ⟨#[32, 97, 110, 100, 32]⟩) (a := [40] ++ tl) (b := [32, 97, 110, 100, 32]) rfl rfl]; conv => whnf)
    (refine ⟨le_str (x := strB ([40] ++ tl ++ [32, 97, 110, 100, 32])) (y := strB (tr)) (a := [40] ++ tl ++ [32, 97, 110, 100, 32]) (b := tr) rfl rfl (by simp; omega), ?_⟩; rw [app_str (x := strB ([40] ++ tl ++ [32, 97, 110, 100, 32])) (y := strB (tr)) (a := [40] ++ tl ++ [32, 97, 110, 100, 32]) (b := tr) rfl rfl]; conv => whnf)
    (refine ⟨le_str (x := strB ([40] ++ tl ++ [32, 97, 110, 100, 32] ++ tr)) (y := ⟨#[41]⟩) (a := [40] ++ tl ++ [32, 97, 110, 100, 32] ++ tr) (b := [41]) rfl rfl (by simp; omega), ?_⟩; rw [app_str (x := strB ([40] ++ tl ++ [32, 97, 110, 100, 32] ++ tr)) (y := ⟨#[41]⟩) (a := [40] ++ tl ++ [32, 97, 110, 100, 32] ++ tr) (b := [41]) rfl rfl]; conv => whnf)
    try rfl
  | or l r ih1 ih2 =>
    intro ht f pre post he hfl hfa hbg z hz
    refine fnOf [(4, [0, 1, 2, 3, 4, 5, 6, 10, 11, 12, 7, 8, 9, 13, 14, 15])] Try.func8 rfl (by kernel_rfl) (Nat.le_of_ble_eq_true rfl) ?_
    have hfl2 : (FT.or l r).flat.length = l.flat.length + r.flat.length + 1 := by rw [FT.flat, List.length_append, List.length_append, List.length_singleton]; omega
    obtain ⟨n, hn⟩ : ∃ n : Nat, z = (n : Int) := ⟨pre.length + (l.flat.length + r.flat.length), by omega⟩
    subst hn
    have hge := tree_last (.or l r) f pre post he n (by omega)
    replace hge : f[n]? = some (opSt 12) := hge
    have hnl : n < f.length := (List.getElem?_eq_some_iff.1 hge).1
    have xop : ∀ (y : FSt), f[Int.toNat (n : Int)]? = some y → opSt 12 = y := fun y hy => Option.some.inj (hge.symm.trans hy)
    have er : f = (pre ++ l.flat) ++ (r.flat ++ (opSt 12 :: post)) := by rw [he, FT.flat]; simp only [List.append_assoc, List.singleton_append]
    have hpl : (pre ++ l.flat).length = pre.length + l.flat.length := List.length_append
    have hir := ih2 ht.2 f (pre ++ l.flat) (opSt 12 :: post) er hfl hfa (by unfold FT.text at hbg; simp at hbg; omega) ((n : Int) - 1) (by omega)
    have hil := ih1 ht.1 f pre (r.flat ++ (opSt 12 :: post)) (by rw [er, List.append_assoc]) hfl hfa (by unfold FT.text at hbg; simp at hbg; omega) (((pre ++ l.flat).length : Int) - 1) (by omega)
    have hpt := part45_fn f (pre ++ l.flat) (opSt 12 :: post) r ht.2 er hfl ((n : Int) - 1) (by omega)
    have e1 : IntKind.i64.wrap ((n : Int) - 1) = (n : Int) - 1 := IntWalk.i64_in _ (by omega)
    have e2 : IntKind.i64.wrap (((pre ++ l.flat).length : Int) - 1) = ((pre ++ l.flat).length : Int) - 1 := IntWalk.i64_in _ (by omega)
    unfold FT.text at hbg ⊢
    simp at hbg
    conv => whnf
    refine ⟨rfl, ⟨by omega, by omega⟩, fun y hy => ?_⟩
    obtain rfl := xop y hy
    conv => whnf
    (refine ⟨by decide, ?_⟩; conv => whnf)
    rw [e1]
    (refine CallVC.pure (hir) rfl ?_; rintro _ rfl; conv => whnf)
    rw [e1]
    (refine CallVC.pure (hpt) rfl ?_; rintro _ rfl; conv => whnf)
    rw [e2]
    (refine CallVC.pure (hil) rfl ?_; rintro _ rfl; conv => whnf)
    generalize FT.text l = tl at *
    generalize FT.text r = tr at *
    (refine ⟨le_str (x := ⟨#[40]⟩) (y := strB (tl)) (a := [40]) (b := tl) rfl rfl (by simp; omega), ?_⟩; rw [app_str (x := ⟨#[40]⟩) (y := strB (tl)) (a := [40]) (b := tl) rfl rfl]; conv => whnf)
    (refine ⟨le_str (x := strB ([40] ++ tl)) (y := ⟨#[32, 111, 114, 32]⟩) (a := [40] ++ tl) (b := [32, 111, 114, 32]) rfl rfl (by simp; omega), ?_⟩; rw [app_str (x := strB ([40] ++ tl)) (y := ⟨#[32, 111, 114, 32]⟩) (a := [40] ++ tl) (b := [32, 111, 114, 32]) rfl rfl]; conv => whnf)
    (refine ⟨le_str (x := strB ([40] ++ tl ++ [32, 111, 114, 32])) (y := strB (tr)) (a := [40] ++ tl ++ [32, 111, 114, 32]) (b := tr) rfl rfl (by simp; omega), ?_⟩; rw [app_str (x := strB ([40] ++ tl ++ [32, 111, 114, 32])) (y := strB (tr)) (a := [40] ++ tl ++ [32, 111, 114, 32]) (b := tr) rfl rfl]; conv => whnf)
    (refine ⟨le_str (x := strB ([40] ++ tl ++ [32, 111, 114, 32] ++ tr)) (y := ⟨#[41]⟩) (a := [40] ++ tl ++ [32, 111, 114, 32] ++ tr) (b := [41]) rfl rfl (by simp; omega), ?_⟩; rw [app_str (x := strB ([40] ++ tl ++ [32, 111, 114, 32] ++ tr)) (y := ⟨#[41]⟩) (a := [40] ++ tl ++ [32, 111, 114, 32] ++ tr) (b := [41]) rfl rfl]; conv => whnf)
    try rfl
set_option maxHeartbeats 4000000 in
theorem deep45_fn : ∀ (t : FT), t.ok → ∀ (f pre post : List FSt), f = pre ++ (t.flat ++ post) → f.length ≤ 1000 → (∀ x, x ∈ f → x.addr < 4294967296) → t.deep ≤ 1000 → ∀ z : Int, z + 1 = ((pre.length + t.flat.length : Nat) : Int) → Fn Try.prog 9 [rowsF f, intD z] fun d => d = intD ((t.deep : Nat) : Int) := by
  intro t
  induction t with
  | leaf x =>
    intro ht f pre post he hfl hfa hbg z hz
    refine fnOf [] Try.func9 rfl (by kernel_rfl) (Nat.le_of_ble_eq_true rfl) ?_
    obtain ⟨n, hn⟩ : ∃ n : Nat, z = (n : Int) := ⟨pre.length, by rw [show (FT.leaf x).flat.length = 1 from rfl] at hz; omega⟩
    subst hn
    have hge := tree_last (.leaf x) f pre post he n (by omega)
    replace hge : f[n]? = some x := hge
    have hnl : n < f.length := (List.getElem?_eq_some_iff.1 hge).1
    have xop : ∀ (y : FSt), f[Int.toNat (n : Int)]? = some y → x = y := fun y hy => Option.some.inj (hge.symm.trans hy)
    have hop : 1 ≤ x.op ∧ x.op ≤ 10 := ht.2
    conv => whnf
    refine ⟨rfl, ⟨by omega, by omega⟩, fun y hy => ?_⟩
    obtain rfl := xop y hy
    conv => whnf
    refine Fork.intro (fun _ => ?_) (fun q => absurd (show ¬ x.op < 11 from of_decide_eq_false q) (by omega))
    conv => whnf
    try rfl
  | no u ih =>
    intro ht f pre post he hfl hfa hbg z hz
    refine fnOf [] Try.func9 rfl (by kernel_rfl) (Nat.le_of_ble_eq_true rfl) ?_
    have hfl2 : (FT.no u).flat.length = u.flat.length + 1 := by rw [FT.flat, List.length_append, List.length_singleton]
    obtain ⟨n, hn⟩ : ∃ n : Nat, z = (n : Int) := ⟨pre.length + u.flat.length, by omega⟩
    subst hn
    have hge := tree_last (.no u) f pre post he n (by omega)
    replace hge : f[n]? = some (opSt 13) := hge
    have hnl : n < f.length := (List.getElem?_eq_some_iff.1 hge).1
    have xop : ∀ (y : FSt), f[Int.toNat (n : Int)]? = some y → opSt 13 = y := fun y hy => Option.some.inj (hge.symm.trans hy)
    have hi := ih ht f pre (opSt 13 :: post) (by rw [he, FT.flat, List.append_assoc]; rfl) hfl hfa (by unfold FT.deep at hbg; omega) ((n : Int) - 1) (by omega)
    have e1 : IntKind.i64.wrap ((n : Int) - 1) = (n : Int) - 1 := IntWalk.i64_in _ (by omega)
    unfold FT.deep at hbg ⊢
    conv => whnf
    refine ⟨rfl, ⟨by omega, by omega⟩, fun y hy => ?_⟩
    obtain rfl := xop y hy
    conv => whnf
    rw [e1]
    (refine CallVC.pure (hi) rfl ?_; rintro _ rfl; conv => whnf)
    rw [IntWalk.i64_in _ (by omega)]
    try rfl
  | an l r ih1 ih2 =>
    intro ht f pre post he hfl hfa hbg z hz
    refine fnOf [] Try.func9 rfl (by kernel_rfl) (Nat.le_of_ble_eq_true rfl) ?_
    have hfl2 : (FT.an l r).flat.length = l.flat.length + r.flat.length + 1 := by rw [FT.flat, List.length_append, List.length_append, List.length_singleton]; omega
    obtain ⟨n, hn⟩ : ∃ n : Nat, z = (n : Int) := ⟨pre.length + (l.flat.length + r.flat.length), by omega⟩
    subst hn
    have hge := tree_last (.an l r) f pre post he n (by omega)
    replace hge : f[n]? = some (opSt 11) := hge
    have hnl : n < f.length := (List.getElem?_eq_some_iff.1 hge).1
    have xop : ∀ (y : FSt), f[Int.toNat (n : Int)]? = some y → opSt 11 = y := fun y hy => Option.some.inj (hge.symm.trans hy)
    have er : f = (pre ++ l.flat) ++ (r.flat ++ (opSt 11 :: post)) := by rw [he, FT.flat]; simp only [List.append_assoc, List.singleton_append]
    have hpl : (pre ++ l.flat).length = pre.length + l.flat.length := List.length_append
    have hir := ih2 ht.2 f (pre ++ l.flat) (opSt 11 :: post) er hfl hfa (by unfold FT.deep at hbg; omega) ((n : Int) - 1) (by omega)
    have hil := ih1 ht.1 f pre (r.flat ++ (opSt 11 :: post)) (by rw [er, List.append_assoc]) hfl hfa (by unfold FT.deep at hbg; omega) (((pre ++ l.flat).length : Int) - 1) (by omega)
    have hpt := part45_fn f (pre ++ l.flat) (opSt 11 :: post) r ht.2 er hfl ((n : Int) - 1) (by omega)
    have e1 : IntKind.i64.wrap ((n : Int) - 1) = (n : Int) - 1 := IntWalk.i64_in _ (by omega)
    have e2 : IntKind.i64.wrap (((pre ++ l.flat).length : Int) - 1) = ((pre ++ l.flat).length : Int) - 1 := IntWalk.i64_in _ (by omega)
    unfold FT.deep at hbg ⊢
    conv => whnf
    refine ⟨rfl, ⟨by omega, by omega⟩, fun y hy => ?_⟩
    obtain rfl := xop y hy
    conv => whnf
    rw [e1]
    (refine CallVC.pure (hir) rfl ?_; rintro _ rfl; conv => whnf)
    rw [e1]
    (refine CallVC.pure (hpt) rfl ?_; rintro _ rfl; conv => whnf)
    rw [e2]
    (refine CallVC.pure (hil) rfl ?_; rintro _ rfl; conv => whnf)
    generalize FT.deep l = dl at *
    generalize FT.deep r = dr at *
    refine Fork.intro (fun q => ?_) (fun q => ?_)
    · have q := of_decide_eq_true q
      conv => whnf
      rw [IntWalk.i64_in _ (by omega), show max dl dr + 1 = dl + 1 by omega]
      try rfl
    · have q := of_decide_eq_false q
      conv => whnf
      rw [IntWalk.i64_in _ (by omega), show max dl dr + 1 = dr + 1 by omega]
      try rfl
  | or l r ih1 ih2 =>
    intro ht f pre post he hfl hfa hbg z hz
    refine fnOf [] Try.func9 rfl (by kernel_rfl) (Nat.le_of_ble_eq_true rfl) ?_
    have hfl2 : (FT.or l r).flat.length = l.flat.length + r.flat.length + 1 := by rw [FT.flat, List.length_append, List.length_append, List.length_singleton]; omega
    obtain ⟨n, hn⟩ : ∃ n : Nat, z = (n : Int) := ⟨pre.length + (l.flat.length + r.flat.length), by omega⟩
    subst hn
    have hge := tree_last (.or l r) f pre post he n (by omega)
    replace hge : f[n]? = some (opSt 12) := hge
    have hnl : n < f.length := (List.getElem?_eq_some_iff.1 hge).1
    have xop : ∀ (y : FSt), f[Int.toNat (n : Int)]? = some y → opSt 12 = y := fun y hy => Option.some.inj (hge.symm.trans hy)
    have er : f = (pre ++ l.flat) ++ (r.flat ++ (opSt 12 :: post)) := by rw [he, FT.flat]; simp only [List.append_assoc, List.singleton_append]
    have hpl : (pre ++ l.flat).length = pre.length + l.flat.length := List.length_append
    have hir := ih2 ht.2 f (pre ++ l.flat) (opSt 12 :: post) er hfl hfa (by unfold FT.deep at hbg; omega) ((n : Int) - 1) (by omega)
    have hil := ih1 ht.1 f pre (r.flat ++ (opSt 12 :: post)) (by rw [er, List.append_assoc]) hfl hfa (by unfold FT.deep at hbg; omega) (((pre ++ l.flat).length : Int) - 1) (by omega)
    have hpt := part45_fn f (pre ++ l.flat) (opSt 12 :: post) r ht.2 er hfl ((n : Int) - 1) (by omega)
    have e1 : IntKind.i64.wrap ((n : Int) - 1) = (n : Int) - 1 := IntWalk.i64_in _ (by omega)
    have e2 : IntKind.i64.wrap (((pre ++ l.flat).length : Int) - 1) = ((pre ++ l.flat).length : Int) - 1 := IntWalk.i64_in _ (by omega)
    unfold FT.deep at hbg ⊢
    conv => whnf
    refine ⟨rfl, ⟨by omega, by omega⟩, fun y hy => ?_⟩
    obtain rfl := xop y hy
    conv => whnf
    rw [e1]
    (refine CallVC.pure (hir) rfl ?_; rintro _ rfl; conv => whnf)
    rw [e1]
    (refine CallVC.pure (hpt) rfl ?_; rintro _ rfl; conv => whnf)
    rw [e2]
    (refine CallVC.pure (hil) rfl ?_; rintro _ rfl; conv => whnf)
    generalize FT.deep l = dl at *
    generalize FT.deep r = dr at *
    refine Fork.intro (fun q => ?_) (fun q => ?_)
    · have q := of_decide_eq_true q
      conv => whnf
      rw [IntWalk.i64_in _ (by omega), show max dl dr + 1 = dl + 1 by omega]
      try rfl
    · have q := of_decide_eq_false q
      conv => whnf
      rw [IntWalk.i64_in _ (by omega), show max dl dr + 1 = dr + 1 by omega]
      try rfl
end Go.Proofs.Ytfghccppoilfhaa.V
