/-
  An order as a line: the program's, by value. Conditions: numbers of their types.
  plan.Line by value. Conditions: numbers of their types.
-/
import Derived.Test.YtooaeccmkgockaaGreatDoorK7
import Derived.Test.YtooaeccmkgockaaGreatDoorJlK
import Derived.Test.YtooaeccmkgockaaGreatDoorValK
namespace Go.Proofs.YtooaeccmkgockaaGreatDoor.V
open Go.RowKit

theorem lit_rows {α : Type} {e : Nat} {enc : α → List D} {L : List α} (hf : ∀ y d, d ∈ enc y → flatD 4 d = true) : DLe (.lit e (L.map enc)) (.rows α e enc L) := fun C v h => by
  cases h with
  | lit b o g hc hp hl hcell hrep =>
    rw [List.length_map] at hc
    have hget : ∀ (i : Nat) x, L[i]? = some x → (L.map enc)[i]? = some (enc x) := fun i x hx => by rw [List.getElem?_map, hx]; rfl
    rw [List.length_map]
    refine .rows b o g (Nat.le_of_eq hc) (fun hn => hp (by simpa using hn)) (fun i x hx => hl i _ (hget i x hx)) (fun i x j d hx hd => hcell i _ j d (hget i x hx) hd) (fun i x j d hx hd => flat_rep 4 d _ (hf x d (List.mem_of_getElem? hd)) (hrep i _ j d (hget i x hx) hd))
theorem join_lit {L : List (List Nat)} {sep : List Nat} {Q : D → Prop} (h : FnN Tryz.prog 38 [rowsT L, strD sep] Q) : FnN Tryz.prog 38 [.lit 1 (L.map strE), strD sep] Q := by
  refine ⟨h.1, fun w B args' hB hr => h.2 w B args' hB ⟨hr.1, fun j d u hd hu => ?_⟩⟩
  match j, hd with
  | 0, hd =>
    injection hd with hd; subst hd
    exact lit_rows (fun y d hd => by simp [strE] at hd; subst hd; rfl) _ _ (hr.2 0 _ u rfl hu)
  | 1, hd => exact hr.2 1 _ u hd hu
  | _ + 2, hd => simp at hd
attribute [local irreducible] Fn FnN OpVC

theorem byt_of {l : List Nat} (h : l.all (fun x => decide (x < 256)) = true) : Byt l := fun x hx => of_decide_eq_true (List.all_eq_true.1 h x hx)
theorem dgI_byt (n : Int) : Byt (dgI n) := dgs_byt _
theorem txI_byt (n : Int) : Byt (txI n) := txt_byt _
theorem dgI_len {n : Int} (h : 0 ≤ n ∧ n ≤ 65535) : (dgI n).length ≤ 5 := dgs_len 4 n.toNat (by omega)
theorem txI_len (n : Int) : (txI n).length ≤ 15 := txt_len _
theorem modeW_len (n : Int) : (modeW n).length ≤ 7 := by unfold modeW; split <;> decide
theorem protoW_len (n : Int) : (protoW n).length ≤ 7 := by unfold protoW; split <;> decide
def wordsO (o : Ord) : List (List Nat) := match o.op with
  | .ofNat 1 => [wVip, dgI o.id, txI o.addr ++ 58 :: dgI o.port, protoW o.proto, modeW o.num]
  | .ofNat 2 => [wBackend, dgI o.id, dgI o.vip, txI o.addr, wWeight, dgI o.num]
  | .ofNat 3 => [wRemove, dgI o.id]
  | .ofNat 4 => [wDrain, dgI o.id]
  | .ofNat 5 => [wWeight, dgI o.id, dgI o.num]
  | .ofNat 6 => [wMode, dgI o.id, modeW o.num]
  | _ => [wStats]
theorem join_words {o : Ord} (h : 1 ≤ o.op ∧ o.op ≤ 7) : joinN [32] (wordsO o) = lineN o := by
  obtain ⟨count, op, id, vip, addr, port, proto, num⟩ := o
  dsimp only at h
  rcases op_cases h with rfl | rfl | rfl | rfl | rfl | rfl | rfl
  · show joinN [32] [wVip, dgI id, txI addr ++ 58 :: dgI port, protoW proto, modeW num] = wVip ++ 32 :: (dgI id ++ 32 :: ((txI addr ++ 58 :: dgI port) ++ 32 :: (protoW proto ++ 32 :: modeW num)))
    simp [joinN, List.intercalate]
  · show joinN [32] [wBackend, dgI id, dgI vip, txI addr, wWeight, dgI num] = wBackend ++ 32 :: (dgI id ++ 32 :: (dgI vip ++ 32 :: (txI addr ++ 32 :: (wWeight ++ 32 :: dgI num))))
    simp [joinN, List.intercalate]
  · show joinN [32] [wRemove, dgI id] = wRemove ++ 32 :: dgI id
    simp [joinN, List.intercalate]
  · show joinN [32] [wDrain, dgI id] = wDrain ++ 32 :: dgI id
    simp [joinN, List.intercalate]
  · show joinN [32] [wWeight, dgI id, dgI num] = wWeight ++ 32 :: (dgI id ++ 32 :: dgI num)
    simp [joinN, List.intercalate]
  · show joinN [32] [wMode, dgI id, modeW num] = wMode ++ 32 :: (dgI id ++ 32 :: modeW num)
    simp [joinN, List.intercalate]
  · rfl
theorem words_ok {o : Ord} (h : MayO o) (ok : o.ok) : (∀ x, x ∈ wordsO o → Byt x ∧ x.length ≤ 21) ∧ (wordsO o).length ≤ 6 := by
  have h1 := dgI_len h.id
  have h2 := dgI_len (n := o.vip) (by have := h.vip; omega)
  have h3 := dgI_len (n := o.num) (by have := h.num; omega)
  have h4 := dgI_len ok.port
  have h5 := txI_len o.addr
  have h6 := modeW_len o.num
  have h7 := protoW_len o.proto
  have b1 := modeW_byt o.num
  have b2 := protoW_byt o.proto
  have w : ∀ x, x ∈ [wVip, wBackend, wRemove, wDrain, wWeight, wMode, wStats] → Byt x ∧ x.length ≤ 21 := by
    intro x hx
    simp only [List.mem_cons, List.not_mem_nil, or_false] at hx
    rcases hx with rfl | rfl | rfl | rfl | rfl | rfl | rfl <;> exact ⟨byt_of rfl, by decide⟩
  unfold wordsO
  split
  all_goals
    refine ⟨fun x hx => ?_, by simp⟩
    simp only [List.mem_cons, List.not_mem_nil, or_false] at hx
    rcases hx with rfl | hx
    · refine w _ ?_; simp; done
    repeat' (first | (rcases hx with rfl | hx) | subst hx)
    all_goals first
      | (refine w _ ?_; simp; done)
      | exact ⟨dgI_byt _, by omega⟩
      | exact ⟨txI_byt _, by omega⟩
      | exact ⟨b1, by omega⟩
      | exact ⟨b2, by omega⟩
      | exact ⟨(txI_byt _).append (.cons (by decide) (dgI_byt _)), by simp only [List.length_append, List.length_cons]; omega⟩
theorem inter_len (sep : List Nat) {m : Nat} : ∀ L : List (List Nat), (∀ x, x ∈ L → x.length ≤ m) → (joinN sep L).length ≤ L.length * (m + sep.length)
  | [], _ => by simp [joinN]
  | [x], h => by
    have := h x (by simp)
    simp [joinN, List.intercalate]; omega
  | x :: y :: r, h => by
    have h1 := inter_len sep (y :: r) fun z hz => h z (List.mem_cons_of_mem _ hz)
    have h2 := h x List.mem_cons_self
    simp only [joinN, List.intercalate, List.intersperse, List.flatten_cons, List.length_append, List.length_cons] at h1 ⊢
    rw [Nat.succ_mul]
    omega
theorem lineN_ok {o : Ord} (h : MayO o) (ok : o.ok) : Byt (lineN o) ∧ (lineN o).length ≤ 132 := by
  obtain ⟨h1, h2⟩ := words_ok h ok
  rw [← join_words h.op]
  refine ⟨?_, ?_⟩
  · have : ∀ L : List (List Nat), (∀ x, x ∈ L → Byt x) → Byt (joinN [32] L) := by
      intro L
      induction L with
      | nil => intro _; exact .nil
      | cons x r ih =>
        intro hL
        cases r with
        | nil => simpa [joinN, List.intercalate] using hL x (by simp)
        | cons y r =>
          have h3 := ih fun z hz => hL z (List.mem_cons_of_mem _ hz)
          simp only [joinN, List.intercalate, List.intersperse, List.flatten_cons] at h3 ⊢
          exact (hL x (by simp)).append ((Byt.cons (by decide) .nil).append h3)
    exact this _ fun x hx => (h1 x hx).1
  · have h3 := inter_len [32] (m := 21) (wordsO o) fun x hx => (h1 x hx).2
    have h4 : (wordsO o).length * (21 + [32].length) ≤ 6 * 22 := Nat.mul_le_mul_right _ h2
    omega
theorem join_line {o : Ord} (h : MayO o) (ok : o.ok) : FnN Tryz.prog 38 [rowsT (wordsO o), strD [32]] fun d => d = strD (lineN o) := by
  obtain ⟨h1, h2⟩ := words_ok h ok
  have := join_c (wordsO o) [32] (fun x hx => (h1 x hx).1) (.cons (by decide) .nil) (by omega) (by rw [join_words h.op]; have := (lineN_ok h ok).2; omega)
  rw [join_words h.op] at this
  exact this
end Go.Proofs.YtooaeccmkgockaaGreatDoor.V
namespace Go.Proofs.YtooaeccmkgockaaGreatDoor.V
open Go.RowKit
attribute [local irreducible] Fn FnN OpVC

theorem textI_fn {a : Int} (h : 0 ≤ a ∧ a ≤ 4294967295) : Fn Tryz.prog 37 [.v (.int .u32 a)] fun d => d = strD (txI a) := by
  have := text_fn join_c a.toNat (by omega)
  rw [show ((a.toNat : Nat) : Int) = a by omega] at this
  exact this

theorem col_app {x : List Nat} {b : ByteArray} (h : b = strB [58]) : strB x ++ b = strB (x ++ [58]) := by rw [h, strB_append]
set_option maxHeartbeats 2000000 in
theorem line_fn (o : Ord) (ok : o.ok) : Fn Tryz.prog 9 [.agg (ordD o)] fun d => d = strD (lineO o) := by
  refine fnOf [(8, [1001, 0, 1, 2, 5, 6, 7, 10, 11, 13, 14, 4, 9]), (10, [0, 1, 2, 4, 5, 7, 8, 3, 6, 9, 10, 11, 12])] Tryz.func9 rfl (by kernel_rfl) (Nat.le_of_ble_eq_true rfl) ?_
  have hm := may_fnP o
  cases hmb : mayOB o with
  | false =>
    rw [hmb] at hm
    have e : lineO o = [] := by unfold lineO; rw [hmb]
    rw [e]
    conv => whnf
    refine CallVC.pure hm rfl ?_
    rintro _ rfl
    conv => whnf
    rfl
  | true =>
  rw [hmb] at hm
  have may : MayO o := of_decide_eq_true hmb
  rw [lineO_may may]
  have hj := join_line may ok
  have hw := word_fn o.op
  have hid := digitsI_fn o.id (by have := may.id; omega)
  have hvip := digitsI_fn o.vip (by have := may.vip; omega)
  have hnum := digitsI_fn o.num (by have := may.num; omega)
  have hport := digitsI_fn o.port (by have := ok.port; omega)
  have htx := textI_fn ok.addr
  have hmo := pmode_fn o.num
  have hpr := proto_fn o.proto
  have hpo := ok.port
  have lt := txI_len o.addr
  have lp := dgI_len ok.port
  obtain ⟨count, op, id, vip, addr, port, proto, num⟩ := o
  have hop := may.op
  dsimp only at *
  have e1 : IntKind.i64.wrap port = port := IntWalk.i64_in _ (by omega)
  clear hmb may
  rcases op_cases hop with rfl | rfl | rfl | rfl | rfl | rfl | rfl
  · replace hj : FnN Tryz.prog 38 [rowsT [wVip, dgI id, txI addr ++ 58 :: dgI port, protoW proto, modeW num], strD [32]] fun d => d = strD (lineN ⟨count, 1, id, vip, addr, port, proto, num⟩) := hj
    generalize lineN ⟨count, 1, id, vip, addr, port, proto, num⟩ = ln at *
    generalize dgI id = di at *
    generalize dgI port = dp at *
    generalize txI addr = ta at *
    generalize protoW proto = pw at *
    generalize modeW num = mw at *
    replace hw : Fn Tryz.prog 24 [intD 1] fun d => d = strD wVip := hw
    conv => whnf
    refine CallVC.pure hm rfl ?_
    rintro _ rfl
    conv => whnf
    refine CallVC.pure hw rfl ?_
    rintro _ rfl
    conv => whnf
    refine ⟨by decide, ?_⟩
    conv => whnf
    refine CallVC.pure hid rfl ?_
    rintro _ rfl
    conv => whnf
    refine ⟨by decide, ?_⟩
    conv => whnf
    refine op_appendLit (LL := [[strD wVip]]) (new := [[strD di]]) (β := List Nat) (enc := strE) (L := [wVip, di]) ttH rfl rfl rfl rfl rfl (by decide) rfl (by simp) rfl rfl rfl (Nat.le_of_ble_eq_true rfl) rfl (fun _ => rfl) (Nat.le_of_ble_eq_true rfl) (Nat.le_of_ble_eq_true rfl) ?_
    conv => whnf
    refine ⟨Unit, fun _ => ⟨[(3, .grow 1)], [(1, .grow (List Nat) 9 1 strE [wVip, di, ta ++ 58 :: dp, pw, mw])], 2, ([], 0)⟩, ?_, fun _ => ?_⟩
    · conv => whnf
      refine ⟨?_, trivial⟩
      conv => whnf
      refine CallVC.pure htx rfl ?_
      rintro _ rfl
      conv => whnf
      refine ⟨str_le (b := [58]) (by simp; omega), ?_⟩
      rw [col_app (b := ⟨#[58]⟩) rfl]
      conv => whnf
      refine ⟨?_, trivial⟩
      conv => whnf
      rw [e1]
      refine CallVC.pure hport rfl ?_
      rintro _ rfl
      conv => whnf
      refine ⟨str_le (by simp; omega), ?_⟩
      rw [strB_append, List.append_assoc]
      conv => whnf
      refine ⟨?_, trivial⟩
      conv => whnf
      refine CallVC.pure hpr rfl ?_
      rintro _ rfl
      conv => whnf
      refine ⟨?_, trivial⟩
      conv => whnf
      refine CallVC.pure hmo rfl ?_
      rintro _ rfl
      conv => whnf
      refine ⟨?_, trivial⟩
      conv => whnf
      refine ⟨by decide, ?_⟩
      conv => whnf
      refine ⟨?_, trivial⟩
      conv => whnf
      refine ⟨List Nat, strE, [wVip, di, ta ++ 58 :: dp, pw, mw], rfl, fun _ => rfl, Nat.le_of_ble_eq_true rfl, Nat.le_of_ble_eq_true rfl, rfl, ?_⟩
      conv => whnf
      refine ⟨?_, trivial⟩
      conv => whnf
      refine ⟨(), [(1, 2)], [], ?_⟩
      repeat' (first | exact trivial | exact .inl (DLe.refl _) | exact .inl (DLe.nil _ _) | (refine .inr ⟨rfl, _, ?_, rfl⟩; rfl) | exact rfl | exact Nat.zero_le _ | constructor)
    conv => whnf
    refine CallVC.look hj rfl ?_
    rintro _ rfl
    conv => whnf
  · replace hj : FnN Tryz.prog 38 [rowsT [wBackend, dgI id, dgI vip, txI addr, wWeight, dgI num], strD [32]] fun d => d = strD (lineN ⟨count, 2, id, vip, addr, port, proto, num⟩) := hj
    generalize lineN ⟨count, 2, id, vip, addr, port, proto, num⟩ = ln at *
    generalize dgI id = di at *
    generalize dgI vip = dv at *
    generalize txI addr = ta at *
    generalize dgI num = dn at *
    replace hw : Fn Tryz.prog 24 [intD 2] fun d => d = strD wBackend := hw
    conv => whnf
    refine CallVC.pure hm rfl ?_
    rintro _ rfl
    conv => whnf
    refine CallVC.pure hw rfl ?_
    rintro _ rfl
    conv => whnf
    refine ⟨by decide, ?_⟩
    conv => whnf
    refine CallVC.pure hid rfl ?_
    rintro _ rfl
    conv => whnf
    refine ⟨by decide, ?_⟩
    conv => whnf
    refine op_appendLit (LL := [[strD wBackend]]) (new := [[strD di]]) (β := List Nat) (enc := strE) (L := [wBackend, di]) ttH rfl rfl rfl rfl rfl (by decide) rfl (by simp) rfl rfl rfl (Nat.le_of_ble_eq_true rfl) rfl (fun _ => rfl) (Nat.le_of_ble_eq_true rfl) (Nat.le_of_ble_eq_true rfl) ?_
    conv => whnf
    refine CallVC.pure hvip rfl ?_
    rintro _ rfl
    conv => whnf
    refine CallVC.pure htx rfl ?_
    rintro _ rfl
    conv => whnf
    refine CallVC.pure hnum rfl ?_
    rintro _ rfl
    conv => whnf
    refine ⟨by decide, ?_⟩
    conv => whnf
    refine ⟨List Nat, strE, [wBackend, di, dv, ta, wWeight, dn], rfl, fun _ => rfl, Nat.le_of_ble_eq_true rfl, Nat.le_of_ble_eq_true rfl, rfl, ?_⟩
    conv => whnf
    refine CallVC.look hj rfl ?_
    rintro _ rfl
    conv => whnf
  · replace hj : FnN Tryz.prog 38 [rowsT [wRemove, dgI id], strD [32]] fun d => d = strD (lineN ⟨count, 3, id, vip, addr, port, proto, num⟩) := hj
    generalize lineN ⟨count, 3, id, vip, addr, port, proto, num⟩ = ln at *
    generalize dgI id = di at *
    replace hw : Fn Tryz.prog 24 [intD 3] fun d => d = strD wRemove := hw
    conv => whnf
    refine CallVC.pure hm rfl ?_
    rintro _ rfl
    conv => whnf
    refine CallVC.pure hw rfl ?_
    rintro _ rfl
    conv => whnf
    refine ⟨by decide, ?_⟩
    conv => whnf
    refine CallVC.pure hid rfl ?_
    rintro _ rfl
    conv => whnf
    refine ⟨by decide, ?_⟩
    conv => whnf
    refine op_appendLit (LL := [[strD wRemove]]) (new := [[strD di]]) (β := List Nat) (enc := strE) (L := [wRemove, di]) ttH rfl rfl rfl rfl rfl (by decide) rfl (by simp) rfl rfl rfl (Nat.le_of_ble_eq_true rfl) rfl (fun _ => rfl) (Nat.le_of_ble_eq_true rfl) (Nat.le_of_ble_eq_true rfl) ?_
    conv => whnf
    refine CallVC.look hj rfl ?_
    rintro _ rfl
    conv => whnf
  · replace hj : FnN Tryz.prog 38 [rowsT [wDrain, dgI id], strD [32]] fun d => d = strD (lineN ⟨count, 4, id, vip, addr, port, proto, num⟩) := hj
    generalize lineN ⟨count, 4, id, vip, addr, port, proto, num⟩ = ln at *
    generalize dgI id = di at *
    replace hw : Fn Tryz.prog 24 [intD 4] fun d => d = strD wDrain := hw
    conv => whnf
    refine CallVC.pure hm rfl ?_
    rintro _ rfl
    conv => whnf
    refine CallVC.pure hw rfl ?_
    rintro _ rfl
    conv => whnf
    refine ⟨by decide, ?_⟩
    conv => whnf
    refine CallVC.pure hid rfl ?_
    rintro _ rfl
    conv => whnf
    refine ⟨by decide, ?_⟩
    conv => whnf
    refine op_appendLit (LL := [[strD wDrain]]) (new := [[strD di]]) (β := List Nat) (enc := strE) (L := [wDrain, di]) ttH rfl rfl rfl rfl rfl (by decide) rfl (by simp) rfl rfl rfl (Nat.le_of_ble_eq_true rfl) rfl (fun _ => rfl) (Nat.le_of_ble_eq_true rfl) (Nat.le_of_ble_eq_true rfl) ?_
    conv => whnf
    refine CallVC.look hj rfl ?_
    rintro _ rfl
    conv => whnf
  · replace hj : FnN Tryz.prog 38 [rowsT [wWeight, dgI id, dgI num], strD [32]] fun d => d = strD (lineN ⟨count, 5, id, vip, addr, port, proto, num⟩) := hj
    generalize lineN ⟨count, 5, id, vip, addr, port, proto, num⟩ = ln at *
    generalize dgI id = di at *
    generalize dgI num = dn at *
    replace hw : Fn Tryz.prog 24 [intD 5] fun d => d = strD wWeight := hw
    conv => whnf
    refine CallVC.pure hm rfl ?_
    rintro _ rfl
    conv => whnf
    refine CallVC.pure hw rfl ?_
    rintro _ rfl
    conv => whnf
    refine ⟨by decide, ?_⟩
    conv => whnf
    refine CallVC.pure hid rfl ?_
    rintro _ rfl
    conv => whnf
    refine ⟨by decide, ?_⟩
    conv => whnf
    refine op_appendLit (LL := [[strD wWeight]]) (new := [[strD di]]) (β := List Nat) (enc := strE) (L := [wWeight, di]) ttH rfl rfl rfl rfl rfl (by decide) rfl (by simp) rfl rfl rfl (Nat.le_of_ble_eq_true rfl) rfl (fun _ => rfl) (Nat.le_of_ble_eq_true rfl) (Nat.le_of_ble_eq_true rfl) ?_
    conv => whnf
    refine CallVC.pure hnum rfl ?_
    rintro _ rfl
    conv => whnf
    refine ⟨by decide, ?_⟩
    conv => whnf
    refine ⟨List Nat, strE, [wWeight, di, dn], rfl, fun _ => rfl, Nat.le_of_ble_eq_true rfl, Nat.le_of_ble_eq_true rfl, rfl, ?_⟩
    conv => whnf
    refine CallVC.look hj rfl ?_
    rintro _ rfl
    conv => whnf
  · replace hj : FnN Tryz.prog 38 [rowsT [wMode, dgI id, modeW num], strD [32]] fun d => d = strD (lineN ⟨count, 6, id, vip, addr, port, proto, num⟩) := hj
    generalize lineN ⟨count, 6, id, vip, addr, port, proto, num⟩ = ln at *
    generalize dgI id = di at *
    generalize modeW num = mw at *
    replace hw : Fn Tryz.prog 24 [intD 6] fun d => d = strD wMode := hw
    conv => whnf
    refine CallVC.pure hm rfl ?_
    rintro _ rfl
    conv => whnf
    refine CallVC.pure hw rfl ?_
    rintro _ rfl
    conv => whnf
    refine ⟨by decide, ?_⟩
    conv => whnf
    refine CallVC.pure hid rfl ?_
    rintro _ rfl
    conv => whnf
    refine ⟨by decide, ?_⟩
    conv => whnf
    refine op_appendLit (LL := [[strD wMode]]) (new := [[strD di]]) (β := List Nat) (enc := strE) (L := [wMode, di]) ttH rfl rfl rfl rfl rfl (by decide) rfl (by simp) rfl rfl rfl (Nat.le_of_ble_eq_true rfl) rfl (fun _ => rfl) (Nat.le_of_ble_eq_true rfl) (Nat.le_of_ble_eq_true rfl) ?_
    conv => whnf
    refine CallVC.pure hmo rfl ?_
    rintro _ rfl
    conv => whnf
    refine ⟨by decide, ?_⟩
    conv => whnf
    refine ⟨List Nat, strE, [wMode, di, mw], rfl, fun _ => rfl, Nat.le_of_ble_eq_true rfl, Nat.le_of_ble_eq_true rfl, rfl, ?_⟩
    conv => whnf
    refine CallVC.look hj rfl ?_
    rintro _ rfl
    conv => whnf
  · replace hj : FnN Tryz.prog 38 [rowsT [wStats], strD [32]] fun d => d = strD (lineN ⟨count, 7, id, vip, addr, port, proto, num⟩) := hj
    generalize lineN ⟨count, 7, id, vip, addr, port, proto, num⟩ = ln at *
    replace hw : Fn Tryz.prog 24 [intD 7] fun d => d = strD wStats := hw
    conv => whnf
    refine CallVC.pure hm rfl ?_
    rintro _ rfl
    conv => whnf
    refine CallVC.pure hw rfl ?_
    rintro _ rfl
    conv => whnf
    refine ⟨by decide, ?_⟩
    conv => whnf
    refine CallVC.look (join_lit (L := [wStats]) hj) rfl ?_
    rintro _ rfl
    conv => whnf
end Go.Proofs.YtooaeccmkgockaaGreatDoor.V
