/-
  plan.Line by value. Conditions: numbers of their types.
-/
import Derived.Test.YtooaeccmkgockaaGreatDoorJgK
namespace Go.Proofs.YtooaeccmkgockaaGreatDoor.V
open Go.RowKit
attribute [local irreducible] Fn FnN OpVC

theorem textI_fn {a : Int} (h : 0 ≤ a ∧ a ≤ 4294967295) : Fn Tryz.prog 37 [.v (.int .u32 a)] fun d => d = strD (txI a) := by
  have := text_fn join_c a.toNat (by omega)
  rw [show ((a.toNat : Nat) : Int) = a by omega] at this
  exact this

theorem col_app {x : List Nat} {b : ByteArray} (h : b = strB [58]) : strB x ++ b = strB (x ++ [58]) := by rw [h, strB_append]
set_option maxHeartbeats 2000000 in
theorem line_fn (o : Ord) (ok : o.ok) : Fn Tryz.prog 9 [.agg (ordD o)] fun d => d = strD (lineO o) := by
  refine fnOf [(8, [1001, 0, 1, 2, 5, 6, 7, 10, 11, 13, 14, 4, 9]), (10, [0, 1, 2, 4, 5, 7, 8, 3, 6, 9, 10, 11, 12])] Tryz.func9 rfl (by kernel_rfl) (Nat.le_of_ble_eq_true rfl) ?_
  have hm := may_fnP o
  cases hmb : mayOB o with
  | false =>
    rw [hmb] at hm
    have e : lineO o = [] := by unfold lineO; rw [hmb]
    rw [e]
    conv => whnf
    refine CallVC.pure hm rfl ?_
    rintro _ rfl
    conv => whnf
    rfl
  | true =>
  rw [hmb] at hm
  have may : MayO o := of_decide_eq_true hmb
  rw [lineO_may may]
  have hj := join_line may ok
  have hw := word_fn o.op
  have hid := digitsI_fn o.id (by have := may.id; omega)
  have hvip := digitsI_fn o.vip (by have := may.vip; omega)
  have hnum := digitsI_fn o.num (by have := may.num; omega)
  have hport := digitsI_fn o.port (by have := ok.port; omega)
  have htx := textI_fn ok.addr
  have hmo := pmode_fn o.num
  have hpr := proto_fn o.proto
  have hpo := ok.port
  have lt := txI_len o.addr
  have lp := dgI_len ok.port
  obtain ⟨count, op, id, vip, addr, port, proto, num⟩ := o
  have hop := may.op
  dsimp only at *
  have e1 : IntKind.i64.wrap port = port := IntWalk.i64_in _ (by omega)
  clear hmb may
  rcases op_cases hop with rfl | rfl | rfl | rfl | rfl | rfl | rfl
  · replace hj : FnN Tryz.prog 38 [rowsT [wVip, dgI id, txI addr ++ 58 :: dgI port, protoW proto, modeW num], strD [32]] fun d => d = strD (lineN ⟨count, 1, id, vip, addr, port, proto, num⟩) := hj
    generalize lineN ⟨count, 1, id, vip, addr, port, proto, num⟩ = ln at *
    generalize dgI id = di at *
    generalize dgI port = dp at *
    generalize txI addr = ta at *
    generalize protoW proto = pw at *
    generalize modeW num = mw at *
    replace hw : Fn Tryz.prog 24 [intD 1] fun d => d = strD wVip := hw
    conv => whnf
    refine CallVC.pure hm rfl ?_
    rintro _ rfl
    conv => whnf
    refine CallVC.pure hw rfl ?_
    rintro _ rfl
    conv => whnf
    refine ⟨by decide, ?_⟩
    conv => whnf
    refine CallVC.pure hid rfl ?_
    rintro _ rfl
    conv => whnf
    refine ⟨by decide, ?_⟩
    conv => whnf
    refine op_appendLit (LL := [[strD wVip]]) (new := [[strD di]]) (β := List Nat) (enc := strE) (L := [wVip, di]) ttH rfl rfl rfl rfl rfl (by decide) rfl (by simp) rfl rfl rfl (Nat.le_of_ble_eq_true rfl) rfl (fun _ => rfl) (Nat.le_of_ble_eq_true rfl) (Nat.le_of_ble_eq_true rfl) ?_
    conv => whnf
    refine ⟨Unit, fun _ => ⟨[(3, .grow 1)], [(1, .grow (List Nat) 9 1 strE [wVip, di, ta ++ 58 :: dp, pw, mw])], 2, ([], 0)⟩, ?_, fun _ => ?_⟩
    · conv => whnf
      refine ⟨?_, trivial⟩
      conv => whnf
      refine CallVC.pure htx rfl ?_
      rintro _ rfl
      conv => whnf
      refine ⟨str_le (b := [58]) (by simp; omega), ?_⟩
      rw [col_app (b := ⟨#[58]⟩) rfl]
      conv => whnf
      refine ⟨?_, trivial⟩
      conv => whnf
      rw [e1]
      refine CallVC.pure hport rfl ?_
      rintro _ rfl
      conv => whnf
      refine ⟨str_le (by simp; omega), ?_⟩
      rw [strB_append, List.append_assoc]
      conv => whnf
      refine ⟨?_, trivial⟩
      conv => whnf
      refine CallVC.pure hpr rfl ?_
      rintro _ rfl
      conv => whnf
      refine ⟨?_, trivial⟩
      conv => whnf
      refine CallVC.pure hmo rfl ?_
      rintro _ rfl
      conv => whnf
      refine ⟨?_, trivial⟩
      conv => whnf
      refine ⟨by decide, ?_⟩
      conv => whnf
      refine ⟨?_, trivial⟩
      conv => whnf
      refine ⟨List Nat, strE, [wVip, di, ta ++ 58 :: dp, pw, mw], rfl, fun _ => rfl, Nat.le_of_ble_eq_true rfl, Nat.le_of_ble_eq_true rfl, rfl, ?_⟩
      conv => whnf
      refine ⟨?_, trivial⟩
      conv => whnf
      refine ⟨(), [(1, 2)], [], ?_⟩
      repeat' (first | exact trivial | exact .inl (DLe.refl _) | exact .inl (DLe.nil _ _) | (refine .inr ⟨rfl, _, ?_, rfl⟩; rfl) | exact rfl | exact Nat.zero_le _ | constructor)
    conv => whnf
    refine CallVC.look hj rfl ?_
    rintro _ rfl
    conv => whnf
  · replace hj : FnN Tryz.prog 38 [rowsT [wBackend, dgI id, dgI vip, txI addr, wWeight, dgI num], strD [32]] fun d => d = strD (lineN ⟨count, 2, id, vip, addr, port, proto, num⟩) := hj
    generalize lineN ⟨count, 2, id, vip, addr, port, proto, num⟩ = ln at *
    generalize dgI id = di at *
    generalize dgI vip = dv at *
    generalize txI addr = ta at *
    generalize dgI num = dn at *
    replace hw : Fn Tryz.prog 24 [intD 2] fun d => d = strD wBackend := hw
    conv => whnf
    refine CallVC.pure hm rfl ?_
    rintro _ rfl
    conv => whnf
    refine CallVC.pure hw rfl ?_
    rintro _ rfl
    conv => whnf
    refine ⟨by decide, ?_⟩
    conv => whnf
    refine CallVC.pure hid rfl ?_
    rintro _ rfl
    conv => whnf
    refine ⟨by decide, ?_⟩
    conv => whnf
    refine op_appendLit (LL := [[strD wBackend]]) (new := [[strD di]]) (β := List Nat) (enc := strE) (L := [wBackend, di]) ttH rfl rfl rfl rfl rfl (by decide) rfl (by simp) rfl rfl rfl (Nat.le_of_ble_eq_true rfl) rfl (fun _ => rfl) (Nat.le_of_ble_eq_true rfl) (Nat.le_of_ble_eq_true rfl) ?_
    conv => whnf
    refine CallVC.pure hvip rfl ?_
    rintro _ rfl
    conv => whnf
    refine CallVC.pure htx rfl ?_
    rintro _ rfl
    conv => whnf
    refine CallVC.pure hnum rfl ?_
    rintro _ rfl
    conv => whnf
    refine ⟨by decide, ?_⟩
    conv => whnf
    refine ⟨List Nat, strE, [wBackend, di, dv, ta, wWeight, dn], rfl, fun _ => rfl, Nat.le_of_ble_eq_true rfl, Nat.le_of_ble_eq_true rfl, rfl, ?_⟩
    conv => whnf
    refine CallVC.look hj rfl ?_
    rintro _ rfl
    conv => whnf
  · replace hj : FnN Tryz.prog 38 [rowsT [wRemove, dgI id], strD [32]] fun d => d = strD (lineN ⟨count, 3, id, vip, addr, port, proto, num⟩) := hj
    generalize lineN ⟨count, 3, id, vip, addr, port, proto, num⟩ = ln at *
    generalize dgI id = di at *
    replace hw : Fn Tryz.prog 24 [intD 3] fun d => d = strD wRemove := hw
    conv => whnf
    refine CallVC.pure hm rfl ?_
    rintro _ rfl
    conv => whnf
    refine CallVC.pure hw rfl ?_
    rintro _ rfl
    conv => whnf
    refine ⟨by decide, ?_⟩
    conv => whnf
    refine CallVC.pure hid rfl ?_
    rintro _ rfl
    conv => whnf
    refine ⟨by decide, ?_⟩
    conv => whnf
    refine op_appendLit (LL := [[strD wRemove]]) (new := [[strD di]]) (β := List Nat) (enc := strE) (L := [wRemove, di]) ttH rfl rfl rfl rfl rfl (by decide) rfl (by simp) rfl rfl rfl (Nat.le_of_ble_eq_true rfl) rfl (fun _ => rfl) (Nat.le_of_ble_eq_true rfl) (Nat.le_of_ble_eq_true rfl) ?_
    conv => whnf
    refine CallVC.look hj rfl ?_
    rintro _ rfl
    conv => whnf
  · replace hj : FnN Tryz.prog 38 [rowsT [wDrain, dgI id], strD [32]] fun d => d = strD (lineN ⟨count, 4, id, vip, addr, port, proto, num⟩) := hj
    generalize lineN ⟨count, 4, id, vip, addr, port, proto, num⟩ = ln at *
    generalize dgI id = di at *
    replace hw : Fn Tryz.prog 24 [intD 4] fun d => d = strD wDrain := hw
    conv => whnf
    refine CallVC.pure hm rfl ?_
    rintro _ rfl
    conv => whnf
    refine CallVC.pure hw rfl ?_
    rintro _ rfl
    conv => whnf
    refine ⟨by decide, ?_⟩
    conv => whnf
    refine CallVC.pure hid rfl ?_
    rintro _ rfl
    conv => whnf
    refine ⟨by decide, ?_⟩
    conv => whnf
    refine op_appendLit (LL := [[strD wDrain]]) (new := [[strD di]]) (β := List Nat) (enc := strE) (L := [wDrain, di]) ttH rfl rfl rfl rfl rfl (by decide) rfl (by simp) rfl rfl rfl (Nat.le_of_ble_eq_true rfl) rfl (fun _ => rfl) (Nat.le_of_ble_eq_true rfl) (Nat.le_of_ble_eq_true rfl) ?_
    conv => whnf
    refine CallVC.look hj rfl ?_
    rintro _ rfl
    conv => whnf
  · replace hj : FnN Tryz.prog 38 [rowsT [wWeight, dgI id, dgI num], strD [32]] fun d => d = strD (lineN ⟨count, 5, id, vip, addr, port, proto, num⟩) := hj
    generalize lineN ⟨count, 5, id, vip, addr, port, proto, num⟩ = ln at *
    generalize dgI id = di at *
    generalize dgI num = dn at *
    replace hw : Fn Tryz.prog 24 [intD 5] fun d => d = strD wWeight := hw
    conv => whnf
    refine CallVC.pure hm rfl ?_
    rintro _ rfl
    conv => whnf
    refine CallVC.pure hw rfl ?_
    rintro _ rfl
    conv => whnf
    refine ⟨by decide, ?_⟩
    conv => whnf
    refine CallVC.pure hid rfl ?_
    rintro _ rfl
    conv => whnf
    refine ⟨by decide, ?_⟩
    conv => whnf
    refine op_appendLit (LL := [[strD wWeight]]) (new := [[strD di]]) (β := List Nat) (enc := strE) (L := [wWeight, di]) ttH rfl rfl rfl rfl rfl (by decide) rfl (by simp) rfl rfl rfl (Nat.le_of_ble_eq_true rfl) rfl (fun _ => rfl) (Nat.le_of_ble_eq_true rfl) (Nat.le_of_ble_eq_true rfl) ?_
    conv => whnf
    refine CallVC.pure hnum rfl ?_
    rintro _ rfl
    conv => whnf
    refine ⟨by decide, ?_⟩
    conv => whnf
    refine ⟨List Nat, strE, [wWeight, di, dn], rfl, fun _ => rfl, Nat.le_of_ble_eq_true rfl, Nat.le_of_ble_eq_true rfl, rfl, ?_⟩
    conv => whnf
    refine CallVC.look hj rfl ?_
    rintro _ rfl
    conv => whnf
  · replace hj : FnN Tryz.prog 38 [rowsT [wMode, dgI id, modeW num], strD [32]] fun d => d = strD (lineN ⟨count, 6, id, vip, addr, port, proto, num⟩) := hj
    generalize lineN ⟨count, 6, id, vip, addr, port, proto, num⟩ = ln at *
    generalize dgI id = di at *
    generalize modeW num = mw at *
    replace hw : Fn Tryz.prog 24 [intD 6] fun d => d = strD wMode := hw
    conv => whnf
    refine CallVC.pure hm rfl ?_
    rintro _ rfl
    conv => whnf
    refine CallVC.pure hw rfl ?_
    rintro _ rfl
    conv => whnf
    refine ⟨by decide, ?_⟩
    conv => whnf
    refine CallVC.pure hid rfl ?_
    rintro _ rfl
    conv => whnf
    refine ⟨by decide, ?_⟩
    conv => whnf
    refine op_appendLit (LL := [[strD wMode]]) (new := [[strD di]]) (β := List Nat) (enc := strE) (L := [wMode, di]) ttH rfl rfl rfl rfl rfl (by decide) rfl (by simp) rfl rfl rfl (Nat.le_of_ble_eq_true rfl) rfl (fun _ => rfl) (Nat.le_of_ble_eq_true rfl) (Nat.le_of_ble_eq_true rfl) ?_
    conv => whnf
    refine CallVC.pure hmo rfl ?_
    rintro _ rfl
    conv => whnf
    refine ⟨by decide, ?_⟩
    conv => whnf
    refine ⟨List Nat, strE, [wMode, di, mw], rfl, fun _ => rfl, Nat.le_of_ble_eq_true rfl, Nat.le_of_ble_eq_true rfl, rfl, ?_⟩
    conv => whnf
    refine CallVC.look hj rfl ?_
    rintro _ rfl
    conv => whnf
  · replace hj : FnN Tryz.prog 38 [rowsT [wStats], strD [32]] fun d => d = strD (lineN ⟨count, 7, id, vip, addr, port, proto, num⟩) := hj
    generalize lineN ⟨count, 7, id, vip, addr, port, proto, num⟩ = ln at *
    replace hw : Fn Tryz.prog 24 [intD 7] fun d => d = strD wStats := hw
    conv => whnf
    refine CallVC.pure hm rfl ?_
    rintro _ rfl
    conv => whnf
    refine CallVC.pure hw rfl ?_
    rintro _ rfl
    conv => whnf
    refine ⟨by decide, ?_⟩
    conv => whnf
    refine CallVC.look (join_lit (L := [wStats]) hj) rfl ?_
    rintro _ rfl
    conv => whnf
end Go.Proofs.YtooaeccmkgockaaGreatDoor.V
