/-
  What layer 42's lives asks for, exactly; lives is true. No condition.
-/
import Derived.Test.YtgodclgcfpmloaaGreatDoorTriK
import Derived.Test.YtgodclgcfpmloaaGreatDoorK4
namespace Go.Proofs.YtgodclgcfpmloaaGreatDoor.V
open Go.RowKit
attribute [local irreducible] Fn FnN FnR OpVC DLe

theorem manyX_fn (b : List Nat) (h : b.length ≤ 1000000) : Fn Tryz.prog 60 [octR b] fun d => d = strD (dgs b.length) := by
  refine fnOf [] Tryz.func60 rfl (by kernel_rfl) (Nat.le_of_ble_eq_true rfl) ?_
  have hd := digitsT_fn b.length (by omega)
  have e : IntKind.u32.wrap ((b.length : Nat) : Int) = ((b.length : Nat) : Int) := u32_small (by omega)
  conv => whnf
  rw [e]
  (refine CallVC.pure (hd) rfl ?_; rintro _ rfl; conv => whnf)
theorem textX_fn : Fn Tryz.prog 28 [octR [1, 2]] fun d => d = strD [114, 97, 119, 32, 50] := by
  refine fnOf [] Tryz.func28 rfl (by kernel_rfl) (Nat.le_of_ble_eq_true rfl) ?_
  have he := etherParse_fn [1, 2] (byt_of rfl) (by decide)
  have hp : parseE [1, 2] = (frm0, 4) := rfl
  rw [hp] at he
  have hm := manyX_fn [1, 2] (by decide)
  have hw := words_fn [[114, 97, 119], [50]] (fun x hx => by
    rcases List.mem_cons.1 hx with rfl | hx
    · exact byt_of rfl
    · rw [List.mem_singleton.1 hx]; exact byt_of rfl) (by decide) (by decide)
  conv => whnf
  (refine CallVC.pure (he) rfl ?_; rintro _ rfl; conv => whnf)
  refine CallVC.pure hm rfl ?_
  rintro _ rfl
  rw [show dgs [1, 2].length = [50] from dgs_lt (by decide)]
  conv => whnf
  (refine ⟨Nat.le_of_ble_eq_true rfl, ?_⟩; conv => whnf)
  (refine CallVC.pure (hw) rfl ?_; rintro _ rfl; conv => whnf)
  rfl
theorem lineX_fn : Fn Tryz.prog 16 [.agg [intD (1 : Nat), octR [1, 2]]] fun d => d = strD [49, 32, 114, 97, 119, 32, 50] := by
  refine fnOf [] Tryz.func16 rfl (by kernel_rfl) (Nat.le_of_ble_eq_true rfl) ?_
  have ht := textX_fn
  have hd := digitsT_fn 1 (by decide)
  rw [show dgs 1 = [49] from dgs_lt (by decide)] at hd
  have hw := words_fn [[49], [114, 97, 119, 32, 50]] (fun x hx => by
    rcases List.mem_cons.1 hx with rfl | hx
    · exact byt_of rfl
    · rw [List.mem_singleton.1 hx]; exact byt_of rfl) (by decide) (by decide)
  conv => whnf
  (refine CallVC.pure (hd) rfl ?_; rintro _ rfl; conv => whnf)
  (refine CallVC.pure (ht) rfl ?_; rintro _ rfl; conv => whnf)
  (refine ⟨Nat.le_of_ble_eq_true rfl, ?_⟩; conv => whnf)
  (refine CallVC.pure (hw) rfl ?_; rintro _ rfl; conv => whnf)
  rfl
def outs : List (List Nat) := [[], [83], [83], [83], [83], [83, 65], [83, 65]]
theorem flagsX_fn : Fn Tryz.prog 15 [u8D (18 : Nat)] fun d => d = strD [83, 65] := by
  refine fnOf [] Tryz.func15 rfl (by kernel_rfl) (Nat.le_of_ble_eq_true rfl) ?_
  have hlit : Byt [83, 70, 82, 80, 65, 85] := byt_of (by decide)
  conv => whnf
  refine op_rangeStr (b := strB [83, 70, 82, 80, 65, 85]) ttH rfl rfl rfl ?_
  conv => whnf
  refine ⟨Nat, fun g => ⟨[(8, .loc 1 0), (4, strD (outs.getD g [])), (3, .loc 0 0), (0, u8D (18 : Nat))], [(0, .cells 39 [u8D 2, u8D 1, u8D 4, u8D 8, u8D 16, u8D 32]), (1, strI (strB [83, 70, 82, 80, 65, 85]) g)], 2, ([], 0)⟩, fun g => g ≤ 6, fun g => 6 - g, ⟨0, [], [], ?_, Nat.zero_le _⟩, ?_⟩
  · repeat' (first | exact trivial | exact .inl (DLe.refl _) | exact .inl (DLe.nil _ _) | (refine .inr ⟨rfl, _, ?_, rfl⟩; rfl) | exact rfl | exact .inl rfl | exact .inr ⟨rfl, rfl, rfl, rfl⟩ | exact Nat.zero_le _ | constructor)
  intro k hk
  replace hk : k ≤ 6 := hk
  rcases (by omega : k = 0 ∨ k = 1 ∨ k = 2 ∨ k = 3 ∨ k = 4 ∨ k = 5 ∨ k = 6) with rfl | rfl | rfl | rfl | rfl | rfl | rfl
  · conv => whnf
    refine op_nextStr (b := strB [83, 70, 82, 80, 65, 85]) (pos := 0) (id := 1) rfl rfl rfl (fun c m hp hd => ?_) (fun hp => absurd (show 0 < (strB [83, 70, 82, 80, 65, 85]).size by rw [strB_size]; decide) hp)
    rw [decode_low hlit (p := 0) (x := 83) rfl (by decide)] at hd
    injection hd with h1 h2
    subst h1 h2
    conv => whnf
    refine ⟨by decide, ?_⟩
    conv => whnf
    refine op_runeStr (n := 83) ttH rfl rfl rfl rfl (by decide) ?_
    conv => whnf
    refine ⟨str_le (a := []) (b := [83]) (by decide), ?_⟩
    rw [strB_append]
    conv => whnf
    refine ⟨1, [], [], ?_, Nat.le_of_ble_eq_true rfl, Nat.le_of_ble_eq_true rfl⟩
    repeat' (first | exact trivial | exact .inl (DLe.refl _) | exact .inl (DLe.nil _ _) | (refine .inr ⟨rfl, _, ?_, rfl⟩; rfl) | exact rfl | exact .inl rfl | exact .inr ⟨rfl, rfl, rfl, rfl⟩ | exact Nat.zero_le _ | constructor)
  · conv => whnf
    refine op_nextStr (b := strB [83, 70, 82, 80, 65, 85]) (pos := 1) (id := 1) rfl rfl rfl (fun c m hp hd => ?_) (fun hp => absurd (show 1 < (strB [83, 70, 82, 80, 65, 85]).size by rw [strB_size]; decide) hp)
    rw [decode_low hlit (p := 1) (x := 70) rfl (by decide)] at hd
    injection hd with h1 h2
    subst h1 h2
    conv => whnf
    refine ⟨by decide, ?_⟩
    conv => whnf
    refine ⟨2, [], [], ?_, Nat.le_of_ble_eq_true rfl, Nat.le_of_ble_eq_true rfl⟩
    repeat' (first | exact trivial | exact .inl (DLe.refl _) | exact .inl (DLe.nil _ _) | (refine .inr ⟨rfl, _, ?_, rfl⟩; rfl) | exact rfl | exact .inl rfl | exact .inr ⟨rfl, rfl, rfl, rfl⟩ | exact Nat.zero_le _ | constructor)
  · conv => whnf
    refine op_nextStr (b := strB [83, 70, 82, 80, 65, 85]) (pos := 2) (id := 1) rfl rfl rfl (fun c m hp hd => ?_) (fun hp => absurd (show 2 < (strB [83, 70, 82, 80, 65, 85]).size by rw [strB_size]; decide) hp)
    rw [decode_low hlit (p := 2) (x := 82) rfl (by decide)] at hd
    injection hd with h1 h2
    subst h1 h2
    conv => whnf
    refine ⟨by decide, ?_⟩
    conv => whnf
    refine ⟨3, [], [], ?_, Nat.le_of_ble_eq_true rfl, Nat.le_of_ble_eq_true rfl⟩
    repeat' (first | exact trivial | exact .inl (DLe.refl _) | exact .inl (DLe.nil _ _) | (refine .inr ⟨rfl, _, ?_, rfl⟩; rfl) | exact rfl | exact .inl rfl | exact .inr ⟨rfl, rfl, rfl, rfl⟩ | exact Nat.zero_le _ | constructor)
  · conv => whnf
    refine op_nextStr (b := strB [83, 70, 82, 80, 65, 85]) (pos := 3) (id := 1) rfl rfl rfl (fun c m hp hd => ?_) (fun hp => absurd (show 3 < (strB [83, 70, 82, 80, 65, 85]).size by rw [strB_size]; decide) hp)
    rw [decode_low hlit (p := 3) (x := 80) rfl (by decide)] at hd
    injection hd with h1 h2
    subst h1 h2
    conv => whnf
    refine ⟨by decide, ?_⟩
    conv => whnf
    refine ⟨4, [], [], ?_, Nat.le_of_ble_eq_true rfl, Nat.le_of_ble_eq_true rfl⟩
    repeat' (first | exact trivial | exact .inl (DLe.refl _) | exact .inl (DLe.nil _ _) | (refine .inr ⟨rfl, _, ?_, rfl⟩; rfl) | exact rfl | exact .inl rfl | exact .inr ⟨rfl, rfl, rfl, rfl⟩ | exact Nat.zero_le _ | constructor)
  · conv => whnf
    refine op_nextStr (b := strB [83, 70, 82, 80, 65, 85]) (pos := 4) (id := 1) rfl rfl rfl (fun c m hp hd => ?_) (fun hp => absurd (show 4 < (strB [83, 70, 82, 80, 65, 85]).size by rw [strB_size]; decide) hp)
    rw [decode_low hlit (p := 4) (x := 65) rfl (by decide)] at hd
    injection hd with h1 h2
    subst h1 h2
    conv => whnf
    refine ⟨by decide, ?_⟩
    conv => whnf
    refine op_runeStr (n := 65) ttH rfl rfl rfl rfl (by decide) ?_
    conv => whnf
    refine ⟨str_le (a := [83]) (b := [65]) (by decide), ?_⟩
    rw [strB_append]
    conv => whnf
    refine ⟨5, [], [], ?_, Nat.le_of_ble_eq_true rfl, Nat.le_of_ble_eq_true rfl⟩
    repeat' (first | exact trivial | exact .inl (DLe.refl _) | exact .inl (DLe.nil _ _) | (refine .inr ⟨rfl, _, ?_, rfl⟩; rfl) | exact rfl | exact .inl rfl | exact .inr ⟨rfl, rfl, rfl, rfl⟩ | exact Nat.zero_le _ | constructor)
  · conv => whnf
    refine op_nextStr (b := strB [83, 70, 82, 80, 65, 85]) (pos := 5) (id := 1) rfl rfl rfl (fun c m hp hd => ?_) (fun hp => absurd (show 5 < (strB [83, 70, 82, 80, 65, 85]).size by rw [strB_size]; decide) hp)
    rw [decode_low hlit (p := 5) (x := 85) rfl (by decide)] at hd
    injection hd with h1 h2
    subst h1 h2
    conv => whnf
    refine ⟨by decide, ?_⟩
    conv => whnf
    refine ⟨6, [], [], ?_, Nat.le_of_ble_eq_true rfl, Nat.le_of_ble_eq_true rfl⟩
    repeat' (first | exact trivial | exact .inl (DLe.refl _) | exact .inl (DLe.nil _ _) | (refine .inr ⟨rfl, _, ?_, rfl⟩; rfl) | exact rfl | exact .inl rfl | exact .inr ⟨rfl, rfl, rfl, rfl⟩ | exact Nat.zero_le _ | constructor)
  · conv => whnf
    refine op_nextStr (b := strB [83, 70, 82, 80, 65, 85]) (pos := 6) (id := 1) rfl rfl rfl (fun c m hp hd => absurd hp (by rw [strB_size]; decide)) (fun hp => ?_)
    conv => whnf
    rw [show (⟨#[]⟩ : ByteArray) = strB [] from rfl, strB_beq (a := outs.getD 6 []) (byt_of rfl) .nil, show decide (outs.getD 6 [] = []) = false from rfl]
    conv => whnf
    rfl
def upC (k : Nat) (rest : List Value) : List Value := match k with
  | 0 => .int .u8 97 :: .int .u8 90 :: .int .u8 57 :: rest
  | _ + 1 => .int .u8 65 :: .int .u8 90 :: .int .u8 57 :: rest
theorem upperX_fn : Fn Tryz.prog 17 [strD [97, 90, 57]] fun d => d = strD [65, 90, 57] := by
  refine fnOf [] Tryz.func17 rfl (by kernel_rfl) (Nat.le_of_ble_eq_true rfl) ?_
  conv => whnf
  refine op_strBytes (l := [97, 90, 57]) ttH rfl rfl rfl rfl rfl (byt_of rfl) ?_
  intro g cap S hcap
  rw [show bytesL [97, 90, 57] cap = upC 0 (List.replicate (cap - 3) (.int .u8 0)) from rfl]
  generalize List.replicate (cap - 3) (Value.int .u8 0) = rest
  conv => whnf
  refine pv_len ttH rfl rfl rfl ?_
  conv => whnf
  refine ⟨Nat, fun k => ⟨[(10, intD k), (9, intD (3 : Nat)), (8, .v (.slice (some ⟨g, 0, none⟩) 3 cap)), (3, .v (.slice (some ⟨g, 0, none⟩) 3 cap))], [(0, .obj (.sep S (blkA g (mrkO 5 (upC k rest)))))], 1, ([], 0)⟩, fun k => k ≤ 3, fun k => 3 - k, ⟨0, [], [], ?_, Nat.zero_le _⟩, ?_⟩
  · repeat' (first | exact trivial | exact .inl (DLe.refl _) | exact .inl (DLe.nil _ _) | (refine .inr ⟨rfl, _, ?_, rfl⟩; rfl) | exact rfl | exact .inl rfl | exact .inr ⟨rfl, rfl, rfl, rfl⟩ | exact Nat.zero_le _ | constructor)
  intro k hk
  replace hk : k ≤ 3 := hk
  rcases (by omega : k = 0 ∨ k = 1 ∨ k = 2 ∨ k = 3) with rfl | rfl | rfl | rfl
  · conv => whnf
    refine pv_index ttH rfl rfl rfl rfl (by decide) (by decide) ?_
    conv => whnf
    refine pv_loadM (id := 0) (cur := upC 0 rest) (v := .int .u8 97) ttH rfl rfl rfl rfl rfl ?_
    conv => whnf
    refine pv_index ttH rfl rfl rfl rfl (by decide) (by decide) ?_
    conv => whnf
    refine op_storeM (id := 0) (cur := upC 0 rest) (n := IntKind.u8.wrap (97 - 32)) ttH rfl rfl rfl rfl rfl (Nat.le_of_ble_eq_true rfl) rfl ?_
    conv => whnf
    refine ⟨1, [], [], ?_, by decide, by decide⟩
    repeat' (first | exact trivial | exact .inl (DLe.refl _) | exact .inl (DLe.nil _ _) | (refine .inr ⟨rfl, _, ?_, rfl⟩; rfl) | exact rfl | exact .inl rfl | exact .inr ⟨rfl, rfl, rfl, rfl⟩ | exact Nat.zero_le _ | constructor)
  · conv => whnf
    refine pv_index ttH rfl rfl rfl rfl (by decide) (by decide) ?_
    conv => whnf
    refine pv_loadM (id := 0) (cur := upC 1 rest) (v := .int .u8 90) ttH rfl rfl rfl rfl rfl ?_
    conv => whnf
    refine ⟨2, [], [], ?_, by decide, by decide⟩
    repeat' (first | exact trivial | exact .inl (DLe.refl _) | exact .inl (DLe.nil _ _) | (refine .inr ⟨rfl, _, ?_, rfl⟩; rfl) | exact rfl | exact .inl rfl | exact .inr ⟨rfl, rfl, rfl, rfl⟩ | exact Nat.zero_le _ | constructor)
  · conv => whnf
    refine pv_index ttH rfl rfl rfl rfl (by decide) (by decide) ?_
    conv => whnf
    refine pv_loadM (id := 0) (cur := upC 2 rest) (v := .int .u8 57) ttH rfl rfl rfl rfl rfl ?_
    conv => whnf
    refine ⟨3, [], [], ?_, by decide, by decide⟩
    repeat' (first | exact trivial | exact .inl (DLe.refl _) | exact .inl (DLe.nil _ _) | (refine .inr ⟨rfl, _, ?_, rfl⟩; rfl) | exact rfl | exact .inl rfl | exact .inr ⟨rfl, rfl, rfl, rfl⟩ | exact Nat.zero_le _ | constructor)
  · conv => whnf
    refine op_bytesM (id := 0) (l := [65, 90, 57]) (cur := upC 3 rest) ttH rfl rfl rfl rfl rfl rfl (byt_of rfl) (fun j n hj => ?_) ?_
    · match j, hj with
      | 0, hj => injection hj with hj; subst hj; rfl
      | 1, hj => injection hj with hj; subst hj; rfl
      | 2, hj => injection hj with hj; subst hj; rfl
    conv => whnf
set_option maxHeartbeats 2000000 in
theorem lives42_fn : Fn Tryz.prog 8 [] fun d => d = boolD true := by
  refine fnOf [] Tryz.func8 rfl (by kernel_rfl) (Nat.le_of_ble_eq_true rfl) ?_
  have hf := flagsX_fn
  have hl : Fn Tryz.prog 16 [.agg [intD (1 : Nat), .lit 1 ([1, 2].map octE)]] fun d => d = strD [49, 32, 114, 97, 119, 32, 50] :=
    FnLe lineX_fn fun C vs hr => reps_one (l := []) (r := []) (dleAgg (l := [intD (1 : Nat), .lit 1 ([1, 2].map octE)]) (m := [intD (1 : Nat), octR [1, 2]]) ⟨DLe.refl _, dleLit (L := [1, 2]) octE_flat, trivial⟩) hr
  have hu := upperX_fn
  conv => whnf
  (refine CallVC.pure (hf) rfl ?_; rintro _ rfl; conv => whnf)
  rw [show ((strB [83, 65]).toList == (⟨#[83, 65]⟩ : ByteArray).toList) = true from beq_self_eq_true _]
  conv => whnf
  (refine ⟨Nat.le_of_ble_eq_true rfl, ?_⟩; conv => whnf)
  (refine CallVC.pure (hl) rfl ?_; rintro _ rfl; conv => whnf)
  rw [show ((strB [49, 32, 114, 97, 119, 32, 50]).toList == (⟨#[49, 32, 114, 97, 119, 32, 50]⟩ : ByteArray).toList) = true from beq_self_eq_true _]
  conv => whnf
  (refine CallVC.pure (hu) rfl ?_; rintro _ rfl; conv => whnf)
  rw [show ((strB [65, 90, 57]).toList == (⟨#[65, 90, 57]⟩ : ByteArray).toList) = true from beq_self_eq_true _]
end Go.Proofs.YtgodclgcfpmloaaGreatDoor.V
