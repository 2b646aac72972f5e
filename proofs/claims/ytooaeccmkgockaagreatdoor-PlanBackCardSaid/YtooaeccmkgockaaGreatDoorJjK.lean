/-
  The document's digits, which orders may be written, their lines, by value. Conditions: numbers of their types. (printed by gen_jj.py)
-/
import Derived.Test.YtooaeccmkgockaaGreatDoorJiK
namespace Go.Proofs.YtooaeccmkgockaaGreatDoor.V
open Go.RowKit
attribute [local irreducible] Fn FnN OpVC

set_option maxHeartbeats 1000000 in
theorem digitsR_fn (n : Nat) (h : n < 4294967296) : Fn Tryz.prog 56 [.v (.int .u32 n)] fun d => d = strD (dgs n) := by
  refine fnOf [] Tryz.func56 rfl (by kernel_rfl) (Nat.le_of_ble_eq_true rfl) ?_
  have hlen := dgs_len 9 n (by omega)
  conv => whnf
  refine ⟨Nat × List Nat, fun g => ⟨[(3, strD g.2), (0, .v (.int .u32 g.1))], [], 0, ([], 0)⟩, fun g => g.1 ≤ n ∧ dgs n = dgs g.1 ++ g.2, fun g => g.1, ⟨(n, []), [], [], ?_, Nat.le_refl _, (List.append_nil _).symm⟩, ?_⟩
  · repeat' (first | exact trivial | exact .inl (DLe.refl _) | exact .inl (DLe.nil _ _) | (refine .inr ⟨rfl, _, ?_, rfl⟩; rfl) | exact rfl | exact Nat.zero_le _ | constructor)
  · rintro ⟨m, out⟩ ⟨hm, he⟩
    dsimp only at hm he
    have ho : out.length ≤ 10 := by have := congrArg List.length he; rw [List.length_append] at this; omega
    dsimp only
    conv => whnf
    refine Fork.intro (fun h1 => ?_) (fun h1 => ?_)
    · have h1 := of_decide_eq_true h1
      have e1 : IntKind.u8.wrap (IntKind.u32.wrap (48 + (m : Int).tmod 10)) = ((48 + m % 10 : Nat) : Int) := by
        rw [Int.tmod_eq_emod_of_nonneg (by omega), u32_small (by omega), u8_small (by omega)]; omega
      have e2 : IntKind.u32.wrap ((m : Int).tdiv 10) = ((m / 10 : Nat) : Int) := by
        rw [Int.tdiv_eq_ediv_of_nonneg (by omega), u32_small (by omega)]; omega
      conv => whnf
      refine ⟨by decide, ?_⟩
      conv => whnf
      (refine ⟨by decide, ?_⟩; conv => whnf)
      refine op_bytesStr (L := [((48 + m % 10 : Nat) : Int)]) ttH rfl rfl rfl rfl ?_ rfl ?_
      · exact congrArg (fun x => some [[u8D x]]) e1
      rw [bytesOf_str, show [((48 + m % 10 : Nat) : Int)].map Int.toNat = [48 + m % 10] from rfl]
      conv => whnf
      refine ⟨str_le (by simp; omega), ?_⟩
      rw [strB_append]
      conv => whnf
      refine ⟨by decide, ?_⟩
      conv => whnf
      rw [e2]
      refine ⟨(m / 10, (48 + m % 10) :: out), [], [], ?_, ⟨by show m / 10 ≤ n; omega, ?_⟩, by show m / 10 < m; omega⟩
      · repeat' (first | exact trivial | exact .inl (DLe.refl _) | exact .inl (DLe.nil _ _) | (refine .inr ⟨rfl, _, ?_, rfl⟩; rfl) | exact rfl | exact Nat.zero_le _ | constructor)
      · show dgs n = dgs (m / 10) ++ (48 + m % 10) :: out
        rw [he, dgs_ge (n := m) (by omega)]; simp
    · have h1 := of_decide_eq_false h1
      have e1 : IntKind.u8.wrap (IntKind.u32.wrap (48 + (m : Int))) = ((48 + m : Nat) : Int) := by
        rw [u32_small (by omega), u8_small (by omega)]; omega
      conv => whnf
      (refine ⟨by decide, ?_⟩; conv => whnf)
      refine op_bytesStr (L := [((48 + m : Nat) : Int)]) ttH rfl rfl rfl rfl ?_ rfl ?_
      · exact congrArg (fun x => some [[u8D x]]) e1
      rw [bytesOf_str, show [((48 + m : Nat) : Int)].map Int.toNat = [48 + m] from rfl]
      conv => whnf
      refine ⟨str_le (by simp; omega), ?_⟩
      rw [strB_append]
      conv => whnf
      rw [he, dgs_lt (n := m) (by omega)]
theorem num_fn (n : Int) (h : 0 ≤ n ∧ n ≤ 65535) : Fn Tryz.prog 39 [intD n] fun d => d = strD (dgI n) := by
  refine fnOf [] Tryz.func39 rfl (by kernel_rfl) (Nat.le_of_ble_eq_true rfl) ?_
  have hd := digitsR_fn n.toNat (by omega)
  rw [show ((n.toNat : Nat) : Int) = n by omega] at hd
  conv => whnf
  rw [u32_small (n := n) (by omega)]
  conv => whnf
  refine CallVC.pure hd rfl ?_
  rintro _ rfl
  conv => whnf
  rfl
theorem modeR_fn (n : Int) (h : n = 1 ∨ n = 2) : Fn Tryz.prog 41 [intD n] fun d => d = strD (modeW n) := by
  refine fnOf [] Tryz.func41 rfl (by kernel_rfl) (Nat.le_of_ble_eq_true rfl) ?_
  rcases h with rfl | rfl
  all_goals
    conv => whnf
    refine ⟨by decide, ?_⟩
    conv => whnf
    refine ⟨rfl, ?_⟩
    conv => whnf
    rfl

set_option maxRecDepth 100000 in
set_option maxHeartbeats 8000000 in
theorem may_fnR (o : Ord) : Fn Tryz.prog 11 [.agg (ordD o)] fun d => d = boolD (mayOB o) := by
  refine fnOf [] Tryz.func11 rfl (by kernel_rfl) (Nat.le_of_ble_eq_true rfl) ?_
  have fin : ∀ b : Bool, (b = true ↔ MayO o) → D.v (.bool b) = boolD (mayOB o) := fun b h => by
    unfold mayOB
    by_cases hm : MayO o
    · rw [decide_eq_true hm, h.2 hm]
    · rw [decide_eq_false hm]
      cases b with
      | true => exact absurd (h.1 rfl) hm
      | false => rfl
  have key := mayO_iff o
  obtain ⟨count, op, id, vip, addr, port, proto, num⟩ := o
  dsimp only at key
  generalize hM : MayO ⟨count, op, id, vip, addr, port, proto, num⟩ = M at fin key
  clear hM
  generalize boolD (mayOB ⟨count, op, id, vip, addr, port, proto, num⟩) = goal at *
  by_cases hop : 1 ≤ op ∧ op ≤ 7
  · rcases op_cases hop with rfl | rfl | rfl | rfl | rfl | rfl | rfl
    all_goals
      simp at key
      conv => whnf
      repeat' (first
        | (refine fin _ ?_; rw [key]; simp only [decide_eq_true_eq, Bool.not_eq_true', decide_eq_false_iff_not, reduceCtorEq, true_iff, false_iff, Bool.false_eq_true]; omega)
        | (refine Fork.intro (fun h => ?_) (fun h => ?_) <;> (try simp only [decide_eq_true_eq, Bool.not_eq_true', Bool.not_eq_false', decide_eq_false_iff_not] at h) <;> (conv => whnf)))
  · conv => whnf
    repeat' (first
        | (refine fin _ ?_; rw [key]; simp only [decide_eq_true_eq, Bool.not_eq_true', decide_eq_false_iff_not, reduceCtorEq, true_iff, false_iff, Bool.false_eq_true]; omega)
        | (refine Fork.intro (fun h => ?_) (fun h => ?_) <;> (try simp only [decide_eq_true_eq, Bool.not_eq_true', Bool.not_eq_false', decide_eq_false_iff_not] at h) <;> (first | (exfalso; omega) | (conv => whnf))))

/-! ### Lines -/
theorem catL {w x : List Nat} {b : ByteArray} (h : b = strB w) : b ++ strB x = strB (w ++ x) := by rw [h, strB_append]
theorem catR {w x : List Nat} {b : ByteArray} (h : b = strB w) : strB x ++ b = strB (x ++ w) := by rw [h, strB_append]
theorem cat_le {a b : List Nat} {x y : ByteArray} (hx : x = strB a) (hy : y = strB b) (h : a.length + b.length ≤ 1000000000) : ((x.size + y.size : Nat) : Int) ≤ 9223372036854775807 := by
  subst hx hy; exact str_le h
theorem textR_fn {a : Int} (h : 0 ≤ a ∧ a ≤ 4294967295) : Fn Tryz.prog 40 [.v (.int .u32 a)] fun d => d = strD (txI a) := by
  have := rtext_fn a.toNat (by omega)
  rw [show ((a.toNat : Nat) : Int) = a by omega] at this
  exact this

set_option maxHeartbeats 4000000 in
theorem line_fnR (o : Ord) (ok : o.ok) : Fn Tryz.prog 10 [.agg (ordD o)] fun d => d = strD (lineO o) := by
  refine fnOf [(7, [1001, 0, 1, 3, 4, 5, 6, 8, 9, 10, 11, 12, 14, 15, 16, 17, 18, 19, 20, 22, 23]), (9, [0, 1, 5, 6, 10, 11, 15, 16, 2, 3, 4, 7, 8, 9, 12, 13, 14, 17, 18, 19]), (15, [0, 1, 5, 6, 2, 3, 4, 7, 8, 9]), (17, [0, 1, 5, 6, 2, 3, 4, 7, 8, 9])] Tryz.func10 rfl (by kernel_rfl) (Nat.le_of_ble_eq_true rfl) ?_
  have hm := may_fnR o
  cases hmb : mayOB o with
  | false =>
    rw [hmb] at hm
    have e : lineO o = [] := by unfold lineO; rw [hmb]
    rw [e]
    conv => whnf
    refine CallVC.pure hm rfl ?_
    rintro _ rfl
    conv => whnf
    rfl
  | true =>
  rw [hmb] at hm
  have may : MayO o := of_decide_eq_true hmb
  rw [lineO_may may]
  have hid := num_fn o.id may.id
  have hvip := num_fn o.vip (by have := may.vip; omega)
  have hnum := num_fn o.num (by have := may.num; omega)
  have hport := num_fn o.port ok.port
  have htx := textR_fn ok.addr
  have hpo := ok.port
  have lt := txI_len o.addr
  have l1 := dgI_len ok.port
  have l2 := dgI_len may.id
  have l3 := dgI_len (n := o.vip) (by have := may.vip; omega)
  have l4 := dgI_len (n := o.num) (by have := may.num; omega)
  have l5 := modeW_len o.num
  have l6 := protoW_len o.proto
  obtain ⟨count, op, id, vip, addr, port, proto, num⟩ := o
  have hop := may.op
  have hnm := may.mode
  have hpm := may.proto
  dsimp only at *
  have e1 : IntKind.i64.wrap port = port := IntWalk.i64_in _ (by omega)
  clear hmb may
  rcases op_cases hop with rfl | rfl | rfl | rfl | rfl | rfl | rfl
  · have hmo := modeR_fn num (by omega)
    rcases (by omega : proto = 6 ∨ proto = 17) with rfl | rfl
    · have hl : lineN ⟨count, 1, id, vip, addr, port, 6, num⟩ = wVip ++ 32 :: (dgI id ++ 32 :: ((txI addr ++ 58 :: dgI port) ++ 32 :: (wTcp ++ 32 :: modeW num))) := rfl
      rw [hl]
      clear hl
      generalize dgI id = di at *
      generalize dgI port = dp at *
      generalize txI addr = ta at *
      generalize modeW num = mw at *
      generalize hln : wVip ++ 32 :: (di ++ 32 :: ((ta ++ 58 :: dp) ++ 32 :: (wTcp ++ 32 :: mw))) = ln
      conv => whnf
      refine CallVC.pure hm rfl ?_
      rintro _ rfl
      conv => whnf
      refine ⟨Unit, fun _ => ⟨[(2, strD ln)], [], 1, ([], 0)⟩, ?_, fun _ => ?_⟩
      · conv => whnf
        refine ⟨?_, trivial⟩
        conv => whnf
        refine CallVC.pure hid rfl ?_
        rintro _ rfl
        conv => whnf
        refine ⟨cat_le (a := [118, 105, 112, 32]) (b := di) rfl rfl (by simp; omega), ?_⟩
        rw [catL (w := [118, 105, 112, 32]) (b := ⟨#[118, 105, 112, 32]⟩) rfl]
        conv => whnf
        refine ⟨cat_le (a := ([118, 105, 112, 32] ++ di)) (b := [32]) rfl rfl (by simp; omega), ?_⟩
        rw [catR (w := [32]) (b := ⟨#[32]⟩) rfl]
        conv => whnf
        refine ⟨?_, trivial⟩
        conv => whnf
        refine CallVC.pure htx rfl ?_
        rintro _ rfl
        conv => whnf
        refine ⟨cat_le (a := (([118, 105, 112, 32] ++ di) ++ [32])) (b := ta) rfl rfl (by simp; omega), ?_⟩
        rw [strB_append]
        conv => whnf
        refine ⟨cat_le (a := ((([118, 105, 112, 32] ++ di) ++ [32]) ++ ta)) (b := [58]) rfl rfl (by simp; omega), ?_⟩
        rw [catR (w := [58]) (b := ⟨#[58]⟩) rfl]
        conv => whnf
        refine ⟨?_, trivial⟩
        conv => whnf
        rw [e1]
        refine CallVC.pure hport rfl ?_
        rintro _ rfl
        conv => whnf
        refine ⟨cat_le (a := (((([118, 105, 112, 32] ++ di) ++ [32]) ++ ta) ++ [58])) (b := dp) rfl rfl (by simp; omega), ?_⟩
        rw [strB_append]
        conv => whnf
        refine ⟨cat_le (a := ((((([118, 105, 112, 32] ++ di) ++ [32]) ++ ta) ++ [58]) ++ dp)) (b := [32]) rfl rfl (by simp; omega), ?_⟩
        rw [catR (w := [32]) (b := ⟨#[32]⟩) rfl]
        conv => whnf
        refine ⟨cat_le (a := (((((([118, 105, 112, 32] ++ di) ++ [32]) ++ ta) ++ [58]) ++ dp) ++ [32])) (b := wTcp) rfl rfl (by simp; omega), ?_⟩
        rw [catR (w := wTcp) (b := ⟨#[116, 99, 112]⟩) rfl]
        conv => whnf
        refine ⟨cat_le (a := ((((((([118, 105, 112, 32] ++ di) ++ [32]) ++ ta) ++ [58]) ++ dp) ++ [32]) ++ wTcp)) (b := [32]) rfl rfl (by simp; omega), ?_⟩
        rw [catR (w := [32]) (b := ⟨#[32]⟩) rfl]
        conv => whnf
        refine ⟨?_, trivial⟩
        conv => whnf
        refine CallVC.pure hmo rfl ?_
        rintro _ rfl
        conv => whnf
        refine ⟨cat_le (a := (((((((([118, 105, 112, 32] ++ di) ++ [32]) ++ ta) ++ [58]) ++ dp) ++ [32]) ++ wTcp) ++ [32])) (b := mw) rfl rfl (by simp; omega), ?_⟩
        rw [strB_append]
        conv => whnf
        refine ⟨(), [], [], ?_⟩
        rw [show ((((((((([118, 105, 112, 32] ++ di) ++ [32]) ++ ta) ++ [58]) ++ dp) ++ [32]) ++ wTcp) ++ [32]) ++ mw) = ln from by rw [← hln]; simp]
        repeat' (first | exact trivial | exact .inl (DLe.refl _) | exact .inl (DLe.nil _ _) | (refine .inr ⟨rfl, _, ?_, rfl⟩; rfl) | exact rfl | exact Nat.zero_le _ | constructor)
      · conv => whnf
    · have hl : lineN ⟨count, 1, id, vip, addr, port, 17, num⟩ = wVip ++ 32 :: (dgI id ++ 32 :: ((txI addr ++ 58 :: dgI port) ++ 32 :: (wUdp ++ 32 :: modeW num))) := rfl
      rw [hl]
      clear hl
      generalize dgI id = di at *
      generalize dgI port = dp at *
      generalize txI addr = ta at *
      generalize modeW num = mw at *
      generalize hln : wVip ++ 32 :: (di ++ 32 :: ((ta ++ 58 :: dp) ++ 32 :: (wUdp ++ 32 :: mw))) = ln
      conv => whnf
      refine CallVC.pure hm rfl ?_
      rintro _ rfl
      conv => whnf
      refine ⟨Unit, fun _ => ⟨[(2, strD ln)], [], 1, ([], 0)⟩, ?_, fun _ => ?_⟩
      · conv => whnf
        refine ⟨?_, trivial⟩
        conv => whnf
        refine CallVC.pure hid rfl ?_
        rintro _ rfl
        conv => whnf
        refine ⟨cat_le (a := [118, 105, 112, 32]) (b := di) rfl rfl (by simp; omega), ?_⟩
        rw [catL (w := [118, 105, 112, 32]) (b := ⟨#[118, 105, 112, 32]⟩) rfl]
        conv => whnf
        refine ⟨cat_le (a := ([118, 105, 112, 32] ++ di)) (b := [32]) rfl rfl (by simp; omega), ?_⟩
        rw [catR (w := [32]) (b := ⟨#[32]⟩) rfl]
        conv => whnf
        refine ⟨?_, trivial⟩
        conv => whnf
        refine CallVC.pure htx rfl ?_
        rintro _ rfl
        conv => whnf
        refine ⟨cat_le (a := (([118, 105, 112, 32] ++ di) ++ [32])) (b := ta) rfl rfl (by simp; omega), ?_⟩
        rw [strB_append]
        conv => whnf
        refine ⟨cat_le (a := ((([118, 105, 112, 32] ++ di) ++ [32]) ++ ta)) (b := [58]) rfl rfl (by simp; omega), ?_⟩
        rw [catR (w := [58]) (b := ⟨#[58]⟩) rfl]
        conv => whnf
        refine ⟨?_, trivial⟩
        conv => whnf
        rw [e1]
        refine CallVC.pure hport rfl ?_
        rintro _ rfl
        conv => whnf
        refine ⟨cat_le (a := (((([118, 105, 112, 32] ++ di) ++ [32]) ++ ta) ++ [58])) (b := dp) rfl rfl (by simp; omega), ?_⟩
        rw [strB_append]
        conv => whnf
        refine ⟨cat_le (a := ((((([118, 105, 112, 32] ++ di) ++ [32]) ++ ta) ++ [58]) ++ dp)) (b := [32]) rfl rfl (by simp; omega), ?_⟩
        rw [catR (w := [32]) (b := ⟨#[32]⟩) rfl]
        conv => whnf
        refine ⟨cat_le (a := (((((([118, 105, 112, 32] ++ di) ++ [32]) ++ ta) ++ [58]) ++ dp) ++ [32])) (b := wUdp) rfl rfl (by simp; omega), ?_⟩
        rw [catR (w := wUdp) (b := ⟨#[117, 100, 112]⟩) rfl]
        conv => whnf
        refine ⟨cat_le (a := ((((((([118, 105, 112, 32] ++ di) ++ [32]) ++ ta) ++ [58]) ++ dp) ++ [32]) ++ wUdp)) (b := [32]) rfl rfl (by simp; omega), ?_⟩
        rw [catR (w := [32]) (b := ⟨#[32]⟩) rfl]
        conv => whnf
        refine ⟨?_, trivial⟩
        conv => whnf
        refine CallVC.pure hmo rfl ?_
        rintro _ rfl
        conv => whnf
        refine ⟨cat_le (a := (((((((([118, 105, 112, 32] ++ di) ++ [32]) ++ ta) ++ [58]) ++ dp) ++ [32]) ++ wUdp) ++ [32])) (b := mw) rfl rfl (by simp; omega), ?_⟩
        rw [strB_append]
        conv => whnf
        refine ⟨(), [], [], ?_⟩
        rw [show ((((((((([118, 105, 112, 32] ++ di) ++ [32]) ++ ta) ++ [58]) ++ dp) ++ [32]) ++ wUdp) ++ [32]) ++ mw) = ln from by rw [← hln]; simp]
        repeat' (first | exact trivial | exact .inl (DLe.refl _) | exact .inl (DLe.nil _ _) | (refine .inr ⟨rfl, _, ?_, rfl⟩; rfl) | exact rfl | exact Nat.zero_le _ | constructor)
      · conv => whnf
  · have hl : lineN ⟨count, 2, id, vip, addr, port, proto, num⟩ = wBackend ++ 32 :: (dgI id ++ 32 :: (dgI vip ++ 32 :: (txI addr ++ 32 :: (wWeight ++ 32 :: dgI num)))) := rfl
    rw [hl]
    clear hl
    generalize dgI id = di at *
    generalize dgI vip = dv at *
    generalize txI addr = ta at *
    generalize dgI num = dn at *
    conv => whnf
    refine CallVC.pure hm rfl ?_
    rintro _ rfl
    conv => whnf
    refine CallVC.pure hid rfl ?_
    rintro _ rfl
    conv => whnf
    refine ⟨cat_le (a := [98, 97, 99, 107, 101, 110, 100, 32]) (b := di) rfl rfl (by simp; omega), ?_⟩
    rw [catL (w := [98, 97, 99, 107, 101, 110, 100, 32]) (b := ⟨#[98, 97, 99, 107, 101, 110, 100, 32]⟩) rfl]
    conv => whnf
    refine ⟨cat_le (a := ([98, 97, 99, 107, 101, 110, 100, 32] ++ di)) (b := [32]) rfl rfl (by simp; omega), ?_⟩
    rw [catR (w := [32]) (b := ⟨#[32]⟩) rfl]
    conv => whnf
    refine CallVC.pure hvip rfl ?_
    rintro _ rfl
    conv => whnf
    refine ⟨cat_le (a := (([98, 97, 99, 107, 101, 110, 100, 32] ++ di) ++ [32])) (b := dv) rfl rfl (by simp; omega), ?_⟩
    rw [strB_append]
    conv => whnf
    refine ⟨cat_le (a := ((([98, 97, 99, 107, 101, 110, 100, 32] ++ di) ++ [32]) ++ dv)) (b := [32]) rfl rfl (by simp; omega), ?_⟩
    rw [catR (w := [32]) (b := ⟨#[32]⟩) rfl]
    conv => whnf
    refine CallVC.pure htx rfl ?_
    rintro _ rfl
    conv => whnf
    refine ⟨cat_le (a := (((([98, 97, 99, 107, 101, 110, 100, 32] ++ di) ++ [32]) ++ dv) ++ [32])) (b := ta) rfl rfl (by simp; omega), ?_⟩
    rw [strB_append]
    conv => whnf
    refine ⟨cat_le (a := ((((([98, 97, 99, 107, 101, 110, 100, 32] ++ di) ++ [32]) ++ dv) ++ [32]) ++ ta)) (b := [32, 119, 101, 105, 103, 104, 116, 32]) rfl rfl (by simp; omega), ?_⟩
    rw [catR (w := [32, 119, 101, 105, 103, 104, 116, 32]) (b := ⟨#[32, 119, 101, 105, 103, 104, 116, 32]⟩) rfl]
    conv => whnf
    refine CallVC.pure hnum rfl ?_
    rintro _ rfl
    conv => whnf
    refine ⟨cat_le (a := (((((([98, 97, 99, 107, 101, 110, 100, 32] ++ di) ++ [32]) ++ dv) ++ [32]) ++ ta) ++ [32, 119, 101, 105, 103, 104, 116, 32])) (b := dn) rfl rfl (by simp; omega), ?_⟩
    rw [strB_append]
    conv => whnf
    exact congrArg (fun l => strD l) (by simp)
  · have hl : lineN ⟨count, 3, id, vip, addr, port, proto, num⟩ = wRemove ++ 32 :: dgI id := rfl
    rw [hl]
    clear hl
    generalize dgI id = di at *
    conv => whnf
    refine CallVC.pure hm rfl ?_
    rintro _ rfl
    conv => whnf
    refine CallVC.pure hid rfl ?_
    rintro _ rfl
    conv => whnf
    refine ⟨cat_le (a := [114, 101, 109, 111, 118, 101, 32]) (b := di) rfl rfl (by simp; omega), ?_⟩
    rw [catL (w := [114, 101, 109, 111, 118, 101, 32]) (b := ⟨#[114, 101, 109, 111, 118, 101, 32]⟩) rfl]
    conv => whnf
    exact congrArg (fun l => strD l) (by simp)
  · have hl : lineN ⟨count, 4, id, vip, addr, port, proto, num⟩ = wDrain ++ 32 :: dgI id := rfl
    rw [hl]
    clear hl
    generalize dgI id = di at *
    conv => whnf
    refine CallVC.pure hm rfl ?_
    rintro _ rfl
    conv => whnf
    refine CallVC.pure hid rfl ?_
    rintro _ rfl
    conv => whnf
    refine ⟨cat_le (a := [100, 114, 97, 105, 110, 32]) (b := di) rfl rfl (by simp; omega), ?_⟩
    rw [catL (w := [100, 114, 97, 105, 110, 32]) (b := ⟨#[100, 114, 97, 105, 110, 32]⟩) rfl]
    conv => whnf
    exact congrArg (fun l => strD l) (by simp)
  · have hl : lineN ⟨count, 5, id, vip, addr, port, proto, num⟩ = wWeight ++ 32 :: (dgI id ++ 32 :: dgI num) := rfl
    rw [hl]
    clear hl
    generalize dgI id = di at *
    generalize dgI num = dn at *
    conv => whnf
    refine CallVC.pure hm rfl ?_
    rintro _ rfl
    conv => whnf
    refine CallVC.pure hid rfl ?_
    rintro _ rfl
    conv => whnf
    refine ⟨cat_le (a := [119, 101, 105, 103, 104, 116, 32]) (b := di) rfl rfl (by simp; omega), ?_⟩
    rw [catL (w := [119, 101, 105, 103, 104, 116, 32]) (b := ⟨#[119, 101, 105, 103, 104, 116, 32]⟩) rfl]
    conv => whnf
    refine ⟨cat_le (a := ([119, 101, 105, 103, 104, 116, 32] ++ di)) (b := [32]) rfl rfl (by simp; omega), ?_⟩
    rw [catR (w := [32]) (b := ⟨#[32]⟩) rfl]
    conv => whnf
    refine CallVC.pure hnum rfl ?_
    rintro _ rfl
    conv => whnf
    refine ⟨cat_le (a := (([119, 101, 105, 103, 104, 116, 32] ++ di) ++ [32])) (b := dn) rfl rfl (by simp; omega), ?_⟩
    rw [strB_append]
    conv => whnf
    exact congrArg (fun l => strD l) (by simp)
  · have hmo := modeR_fn num (by omega)
    have hl : lineN ⟨count, 6, id, vip, addr, port, proto, num⟩ = wMode ++ 32 :: (dgI id ++ 32 :: modeW num) := rfl
    rw [hl]
    clear hl
    generalize dgI id = di at *
    generalize modeW num = mw at *
    conv => whnf
    refine CallVC.pure hm rfl ?_
    rintro _ rfl
    conv => whnf
    refine CallVC.pure hid rfl ?_
    rintro _ rfl
    conv => whnf
    refine ⟨cat_le (a := [109, 111, 100, 101, 32]) (b := di) rfl rfl (by simp; omega), ?_⟩
    rw [catL (w := [109, 111, 100, 101, 32]) (b := ⟨#[109, 111, 100, 101, 32]⟩) rfl]
    conv => whnf
    refine ⟨cat_le (a := ([109, 111, 100, 101, 32] ++ di)) (b := [32]) rfl rfl (by simp; omega), ?_⟩
    rw [catR (w := [32]) (b := ⟨#[32]⟩) rfl]
    conv => whnf
    refine CallVC.pure hmo rfl ?_
    rintro _ rfl
    conv => whnf
    refine ⟨cat_le (a := (([109, 111, 100, 101, 32] ++ di) ++ [32])) (b := mw) rfl rfl (by simp; omega), ?_⟩
    rw [strB_append]
    conv => whnf
    exact congrArg (fun l => strD l) (by simp)
  · conv => whnf
    refine CallVC.pure hm rfl ?_
    rintro _ rfl
    conv => whnf
    rfl
end Go.Proofs.YtooaeccmkgockaaGreatDoor.V
