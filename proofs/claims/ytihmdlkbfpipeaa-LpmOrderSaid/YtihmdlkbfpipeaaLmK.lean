/-
  The law LpmOrder by value, where lives is true. Conditions: numbers of their types.
-/
import Derived.Test.YtihmdlkbfpipeaaK5
import Derived.Test.YtihmdlkbfpipeaaK2
namespace Go.Proofs.Ytihmdlkbfpipeaa.V
open Go.RowKit
attribute [local irreducible] Fn FnN OpVC ArC

theorem setV_setV (V : List Nat → Option Int) (q : List Nat) (x y : Option Int) : setV (setV V q x) q y = setV V q y := by
  funext p
  by_cases e : p = q
  · subst e; rw [setV_same, setV_same]
  · rw [setV_ne _ _ e, setV_ne _ _ e, setV_ne _ _ e]
def ent (x : (Nat × Int) × Nat) : MapEntry := { key := netK x.1.1 x.1.2, val := .bool true, born := x.2 }
def keysOk (Kl : List ((Nat × Int) × Nat)) (L : List LNet) : Prop := (∀ x, x ∈ Kl → x.1.1 < 4294967296 ∧ -1 ≤ x.1.2 ∧ x.1.2 ≤ 32) ∧ ∀ q, (∃ x, x ∈ Kl ∧ x.1 = q) ↔ ∃ m, m ∈ L ∧ keyA m = q
theorem keysOk_nil : keysOk [] [] := ⟨fun x hx => absurd hx List.not_mem_nil, fun q => ⟨fun ⟨_, h, _⟩ => absurd h List.not_mem_nil, fun ⟨_, h, _⟩ => absurd h List.not_mem_nil⟩⟩
theorem keyA_range (n : LNet) (h : n.ok) : (keyA n).1 < 4294967296 ∧ -1 ≤ (keyA n).2 ∧ (keyA n).2 ≤ 32 := by
  unfold keyA
  cases hv : validN n with
  | false => exact ⟨(by decide : (0 : Nat) < 4294967296), (by decide : (-1 : Int) ≤ -1), (by decide : (-1 : Int) ≤ 32)⟩
  | true =>
    have b := of_decide_eq_true hv
    refine ⟨Nat.lt_of_le_of_lt ?_ h, by dsimp only; omega, b.2⟩
    exact Nat.div_mul_le_self _ _
theorem netK_inj {a a' : Nat} {b b' : Int} (h : netK a b = netK a' b') : (a, b) = (a', b') := by
  unfold netK at h
  injection h with h
  injection h with h
  injection h with h1 h2
  injection h1 with _ h1
  injection h2 with h2 _
  injection h2 with _ h2
  rw [h2, show a = a' by omega]
def netsOk (L : List LNet) : Prop := ∀ n, n ∈ L → n.ok
set_option maxHeartbeats 16000000 in
theorem lpmOrder_fn (hlv : Fn Try.prog 9 [] fun d => d = boolD true) (l extra : List LNet) (hl : netsOk l) (he : netsOk extra) : Fn Try.prog 3 [rowsL l, rowsL extra] fun d => d = boolD true := by
  refine fnE_of_wpc (H0 := [(0, arE), (1, arE)]) (nx0 := 2) (pl := [(10, [1000]), (29, [1000])]) (fun id o h => ?_) ttH ebH mxH Try.func3 rfl (by kernel_rfl) (Nat.le_of_ble_eq_true rfl) ?_
  · by_cases h0 : id = 0
    · subst h0; rw [lget_same] at h; injection h with h; exact ⟨by decide, h.symm⟩
    · rw [lget_ne _ _ h0] at h
      by_cases h1 : id = 1
      · subst h1; rw [lget_same] at h; injection h with h; exact ⟨by decide, h.symm⟩
      · rw [lget_ne _ _ h1] at h; cases h
  conv => whnf
  refine CallVC.ar (i := 0) new_ar rfl rfl ?_
  rintro _ _ S0 ⟨gt, g, hne, rfl, rfl⟩
  have ht0 := tri_new hne
  generalize N0 g = N at *
  conv => whnf
  refine CallVC.ar (i := 1) new_ar rfl rfl ?_
  rintro _ _ S1 ⟨gu, g', hne', rfl, rfl⟩
  have hu0 := tri_new hne'
  generalize N0 g' = Nu at *
  conv => whnf
  refine pv_isNil (b := false) ttH rfl rfl rfl (.inl ⟨rfl, rfl⟩) ?_
  conv => whnf
  refine pv_isNil (b := false) ttH rfl rfl rfl (.inl ⟨rfl, rfl⟩) ?_
  conv => whnf
  refine ⟨Nat × (Nat → Prop) × (List Nat → Option Nat) × Int, fun x => ⟨[(8, intD x.1), (7, .grow 2), (6, .v (.pointer (some ⟨gu, 0, none⟩))), (5, .v (.pointer (some ⟨gt, 0, none⟩))), (1, rowsL extra), (0, rowsL l)],
    [(0, arL x.2.1 (triA x.2.2.1 (lastV (l.take x.1)) gt x.2.2.2)), (1, arL S1 (triA Nu (fun _ => none) gu 0)), (2, .grow LNet 28 3 netC (l.take x.1))], 3, ([], 0)⟩,
    fun x => x.1 ≤ 40 ∧ x.1 ≤ l.length ∧ TriOk x.2.2.1 (lastV (l.take x.1)) gt, fun x => 40 - x.1, ⟨(0, S0, N, 0), [], [2], ?_, ⟨Nat.zero_le _, Nat.zero_le _, ht0⟩⟩, ?_⟩
  · repeat' (first | exact trivial | exact .inl (DLe.refl _) | exact .inl (DLe.nil _ _) | (refine .inr ⟨rfl, _, ?_, rfl⟩; rfl) | exact rfl | exact .inl rfl | exact .inr ⟨rfl, rfl, rfl, rfl⟩ | exact Nat.zero_le _ | constructor)
  clear ht0 S0 hne g hne' g'
  rintro ⟨k, S, N, len⟩ ⟨hk1, hk2, ht⟩
  dsimp only at hk1 hk2 ht ⊢
  have e0 := wrapN (n := k) (by omega)
  conv => whnf
  refine Fork.intro (fun q => ?_) (fun q => ?_)
  · have q' : k < l.length := by have := of_decide_eq_true q; omega
    conv => whnf
    refine Fork.intro (fun q2 => ?_) (fun q2 => ?_)
    · have q2' : k < 40 := by have := of_decide_eq_true q2; omega
      obtain ⟨x, hx⟩ : ∃ x, l[k]? = some x := ⟨_, List.getElem?_eq_getElem q'⟩
      have hxo := hl x (List.mem_of_getElem? hx)
      have htk : l.take (k + 1) = l.take k ++ [x] := by rw [List.take_add_one, hx]; rfl
      have hlast : lastV (l.take (k + 1)) = putV (lastV (l.take k)) x := by funext p; rw [htk, lastV_snoc]
      have hlen1 : (l.take (k + 1)).length ≤ 40 := by rw [List.length_take]; omega
      have hput := put_ar (len := len) ht x hxo
      conv => whnf
      refine ⟨rfl, ⟨by omega, by omega⟩, fun y hy => ?_⟩
      obtain rfl : x = y := Option.some.inj (hx.symm.trans hy)
      conv => whnf
      refine CallVC.ar (i := 0) hput rfl rfl ?_
      intro d M S2 hq
      cases hv : decide (0 ≤ x.bits ∧ x.bits ≤ 32) with
      | false =>
        rw [hv] at hq
        obtain ⟨rfl, rfl⟩ := hq
        have hinv : lastV (l.take (k + 1)) = lastV (l.take k) := by
          rw [hlast]
          unfold putV validN
          rw [hv]
        have hdrop := drop_ar (len := len) ht x.addr x.bits hxo
        rw [hv] at hdrop
        have hput2 := hput
        conv => whnf
        refine ⟨Nat → Prop, fun S => ⟨[(8, intD k), (7, .grow 2), (6, .v (.pointer (some ⟨gu, 0, none⟩))), (5, .v (.pointer (some ⟨gt, 0, none⟩))), (1, rowsL extra), (0, rowsL l)],
          [(0, arL S (triA N (lastV (l.take k)) gt len)), (1, arL S1 (triA Nu (fun _ => none) gu 0)), (2, .grow LNet 28 3 netC (l.take k))], 3, ([], 0)⟩, ?_, fun S3 => ?_⟩
        · conv => whnf
          (refine ⟨rfl, ⟨by omega, by omega⟩, fun y hy => ?_⟩; obtain rfl : x = y := Option.some.inj (hx.symm.trans hy); conv => whnf)
          (refine ⟨rfl, ⟨by omega, by omega⟩, fun y hy => ?_⟩; obtain rfl : x = y := Option.some.inj (hx.symm.trans hy); conv => whnf)
          refine ⟨?_, ?_, trivial⟩
          · conv => whnf
            refine ⟨?_, trivial⟩
            conv => whnf
            refine ⟨?_, trivial⟩
            conv => whnf
            refine CallVC.ar (i := 0) hdrop rfl rfl ?_
            rintro _ _ S3 ⟨rfl, rfl⟩
            conv => whnf
            refine ⟨S3, [], [], ?_⟩
            repeat' (first | exact trivial | exact .inl (DLe.refl _) | exact .inl (DLe.nil _ _) | (refine .inr ⟨rfl, _, ?_, rfl⟩; rfl) | exact rfl | exact .inl rfl | exact .inr ⟨rfl, rfl, rfl, rfl⟩ | exact Nat.zero_le _ | constructor)
          · conv => whnf
            refine ⟨?_, trivial⟩
            conv => whnf
            refine ⟨?_, trivial⟩
            conv => whnf
            refine CallVC.ar (i := 0) hdrop rfl rfl ?_
            rintro _ _ S3 ⟨rfl, rfl⟩
            conv => whnf
            refine ⟨S3, [], [], ?_⟩
            repeat' (first | exact trivial | exact .inl (DLe.refl _) | exact .inl (DLe.nil _ _) | (refine .inr ⟨rfl, _, ?_, rfl⟩; rfl) | exact rfl | exact .inl rfl | exact .inr ⟨rfl, rfl, rfl, rfl⟩ | exact Nat.zero_le _ | constructor)
        · conv => whnf
          (refine ⟨rfl, ⟨by omega, by omega⟩, fun y hy => ?_⟩; obtain rfl : x = y := Option.some.inj (hx.symm.trans hy); conv => whnf)
          refine CallVC.ar (i := 0) hput2 rfl rfl ?_
          intro d M S4 hq
          rw [hv] at hq
          obtain ⟨rfl, rfl⟩ := hq
          conv => whnf
          (refine ⟨rfl, ⟨by omega, by omega⟩, fun y hy => ?_⟩; obtain rfl : x = y := Option.some.inj (hx.symm.trans hy); conv => whnf)
          (refine ⟨Nat.le_of_ble_eq_true rfl, ?_⟩; conv => whnf)
          refine ⟨LNet, netC, l.take (k + 1), by rw [htk, List.map_append]; rfl, fun _ => rfl, by omega, (by show _ * 24 ≤ _; omega), rfl, ?_⟩
          conv => whnf
          rw [e0]
          refine ⟨(k + 1, S4, N, len), [(2, 3)], [], ?_, ⟨q2', q', by rw [hinv]; exact ht⟩, by show 40 - (k + 1) < 40 - k; omega⟩
          dsimp only
          rw [hinv]
          repeat' (first | exact trivial | exact .inl (DLe.refl _) | exact .inl (DLe.nil _ _) | (refine .inr ⟨rfl, _, ?_, rfl⟩; rfl) | exact rfl | exact .inl rfl | exact .inr ⟨rfl, rfl, rfl, rfl⟩ | exact Nat.zero_le _ | constructor)
      | true =>
        rw [hv] at hq
        obtain ⟨N2, len2, ht2, rfl, rfl⟩ := hq
        have hpv : setV (lastV (l.take k)) (way x.addr x.bits.toNat) (some x.num) = lastV (l.take (k + 1)) := by
          rw [hlast]
          unfold putV validN
          rw [hv]
          rfl
        cases hV : lastV (l.take k) (way x.addr x.bits.toNat) with
        | none =>
          rw [hpv] at ht2 ⊢
          conv => whnf
          (refine ⟨rfl, ⟨by omega, by omega⟩, fun y hy => ?_⟩; obtain rfl : x = y := Option.some.inj (hx.symm.trans hy); conv => whnf)
          (refine ⟨Nat.le_of_ble_eq_true rfl, ?_⟩; conv => whnf)
          refine ⟨LNet, netC, l.take (k + 1), by rw [htk, List.map_append]; rfl, fun _ => rfl, by omega, (by show _ * 24 ≤ _; omega), rfl, ?_⟩
          conv => whnf
          rw [e0]
          refine ⟨(k + 1, S2, N2, len2), [(2, 3)], [], ?_, ⟨q2', q', ht2⟩, by show 40 - (k + 1) < 40 - k; omega⟩
          repeat' (first | exact trivial | exact .inl (DLe.refl _) | exact .inl (DLe.nil _ _) | (refine .inr ⟨rfl, _, ?_, rfl⟩; rfl) | exact rfl | exact .inl rfl | exact .inr ⟨rfl, rfl, rfl, rfl⟩ | exact Nat.zero_le _ | constructor)
        | some v =>
          have hdrop := drop_ar (len := len2) ht2 x.addr x.bits hxo
          rw [hv, setV_same] at hdrop
          have hput2 := fun (N3 : List Nat → Option Nat) (len3 : Int) (ht3 : TriOk N3 (setV (lastV (l.take k)) (way x.addr x.bits.toNat) none) gt) => put_ar (len := len3) ht3 x hxo
          conv => whnf
          refine ⟨{b : (Nat → Prop) × (List Nat → Option Nat) × Int // TriOk b.2.1 (setV (lastV (l.take k)) (way x.addr x.bits.toNat) none) gt}, fun b => ⟨[(8, intD k), (7, .grow 2), (6, .v (.pointer (some ⟨gu, 0, none⟩))), (5, .v (.pointer (some ⟨gt, 0, none⟩))), (1, rowsL extra), (0, rowsL l)],
            [(0, arL b.val.1 (triA b.val.2.1 (setV (lastV (l.take k)) (way x.addr x.bits.toNat) none) gt b.val.2.2)), (1, arL S1 (triA Nu (fun _ => none) gu 0)), (2, .grow LNet 28 3 netC (l.take k))], 3, ([], 0)⟩, ?_, fun b => ?_⟩
          · conv => whnf
            (refine ⟨rfl, ⟨by omega, by omega⟩, fun y hy => ?_⟩; obtain rfl : x = y := Option.some.inj (hx.symm.trans hy); conv => whnf)
            (refine ⟨rfl, ⟨by omega, by omega⟩, fun y hy => ?_⟩; obtain rfl : x = y := Option.some.inj (hx.symm.trans hy); conv => whnf)
            refine ⟨?_, ?_, trivial⟩
            · conv => whnf
              refine ⟨?_, trivial⟩
              conv => whnf
              refine ⟨?_, trivial⟩
              conv => whnf
              refine CallVC.ar (i := 0) hdrop rfl rfl ?_
              rintro _ _ S3 ⟨N3, len3, ht3, rfl, rfl⟩
              rw [setV_setV] at ht3 ⊢
              conv => whnf
              refine ⟨⟨(S3, N3, len3), ht3⟩, [], [], ?_⟩
              repeat' (first | exact trivial | exact .inl (DLe.refl _) | exact .inl (DLe.nil _ _) | (refine .inr ⟨rfl, _, ?_, rfl⟩; rfl) | exact rfl | exact .inl rfl | exact .inr ⟨rfl, rfl, rfl, rfl⟩ | exact Nat.zero_le _ | constructor)
            · conv => whnf
              refine ⟨?_, trivial⟩
              conv => whnf
              refine ⟨?_, trivial⟩
              conv => whnf
              refine CallVC.ar (i := 0) hdrop rfl rfl ?_
              rintro _ _ S3 ⟨N3, len3, ht3, rfl, rfl⟩
              rw [setV_setV] at ht3 ⊢
              conv => whnf
              refine ⟨⟨(S3, N3, len3), ht3⟩, [], [], ?_⟩
              repeat' (first | exact trivial | exact .inl (DLe.refl _) | exact .inl (DLe.nil _ _) | (refine .inr ⟨rfl, _, ?_, rfl⟩; rfl) | exact rfl | exact .inl rfl | exact .inr ⟨rfl, rfl, rfl, rfl⟩ | exact Nat.zero_le _ | constructor)
          · obtain ⟨⟨S3, N3, len3⟩, ht3⟩ := b
            have hp3 := hput2 N3 len3 ht3
            dsimp only
            conv => whnf
            (refine ⟨rfl, ⟨by omega, by omega⟩, fun y hy => ?_⟩; obtain rfl : x = y := Option.some.inj (hx.symm.trans hy); conv => whnf)
            refine CallVC.ar (i := 0) hp3 rfl rfl ?_
            intro d M S4 hq
            rw [hv, setV_setV, hpv] at hq
            obtain ⟨N4, len4, ht4, rfl, rfl⟩ := hq
            conv => whnf
            (refine ⟨rfl, ⟨by omega, by omega⟩, fun y hy => ?_⟩; obtain rfl : x = y := Option.some.inj (hx.symm.trans hy); conv => whnf)
            (refine ⟨Nat.le_of_ble_eq_true rfl, ?_⟩; conv => whnf)
            refine ⟨LNet, netC, l.take (k + 1), by rw [htk, List.map_append]; rfl, fun _ => rfl, by omega, (by show _ * 24 ≤ _; omega), rfl, ?_⟩
            conv => whnf
            rw [e0]
            refine ⟨(k + 1, S4, N4, len4), [(2, 3)], [], ?_, ⟨q2', q', ht4⟩, by show 40 - (k + 1) < 40 - k; omega⟩
            repeat' (first | exact trivial | exact .inl (DLe.refl _) | exact .inl (DLe.nil _ _) | (refine .inr ⟨rfl, _, ?_, rfl⟩; rfl) | exact rfl | exact .inl rfl | exact .inr ⟨rfl, rfl, rfl, rfl⟩ | exact Nat.zero_le _ | constructor)
    · replace hk2 : l.take k = l.take 40 := (by have := of_decide_eq_false q2; rw [show k = 40 by omega])
      rw [hk2] at ht ⊢
      have hKok : netsOk (l.take 40) := fun n hn => hl n (List.mem_of_mem_take hn)
      have hKl : (l.take 40).length ≤ 40 := by rw [List.length_take]; omega
      generalize l.take 40 = K at *
      clear hl
      have e1 : IntKind.i64.wrap ((K.length : Int) - 1) = (K.length : Int) - 1 := IntWalk.i64_in _ (by omega)
      conv => whnf
      refine op_makeMap rfl ?_
      conv => whnf
      rw [e1]
      refine ⟨Nat × (Nat → Prop) × (List Nat → Option Nat) × Int × List ((Nat × Int) × Nat) × Nat, fun x => ⟨[(10, intD ((x.1 : Int) - 1)), (9, .mapr 3), (7, .grow 2), (6, .v (.pointer (some ⟨gu, 0, none⟩))), (5, .v (.pointer (some ⟨gt, 0, none⟩))), (1, rowsL extra)],
        [(0, arL S (triA N (lastV K) gt len)), (1, arL x.2.1 (triA x.2.2.1 (lastV (K.drop x.1)) gu x.2.2.2.1)), (2, .grow LNet 28 3 netC K), (3, .obj (.ob (.map (x.2.2.2.2.1.map ent).toArray x.2.2.2.2.2)))], 4, ([], 0)⟩,
        fun x => x.1 ≤ K.length ∧ TriOk x.2.2.1 (lastV (K.drop x.1)) gu ∧ keysOk x.2.2.2.2.1 (K.drop x.1), fun x => x.1, ⟨(K.length, S1, Nu, 0, [], 0), [], [], ?_, ⟨Nat.le_refl _, by dsimp only; rw [List.drop_length]; exact hu0, by dsimp only; rw [List.drop_length]; exact keysOk_nil⟩⟩, ?_⟩
      · dsimp only
        rw [List.drop_length]
        repeat' (first | exact trivial | exact .inl (DLe.refl _) | exact .inl (DLe.nil _ _) | (refine .inr ⟨rfl, _, ?_, rfl⟩; rfl) | exact rfl | exact .inl rfl | exact .inr ⟨rfl, rfl, rfl, rfl⟩ | exact Nat.zero_le _ | constructor)
      clear hu0
      rintro ⟨j, S3, N3, len3, Kl, cc⟩ ⟨hj, ht3, hkeys⟩
      dsimp only at hj ht3 hkeys ⊢
      conv => whnf
      refine Fork.intro (fun r => ?_) (fun r => ?_)
      · have r' : 0 < j := by have := of_decide_eq_true r; omega
        obtain ⟨m, rfl⟩ : ∃ m, j = m + 1 := ⟨j - 1, by omega⟩
        obtain ⟨x, hx⟩ : ∃ x, K[m]? = some x := ⟨_, List.getElem?_eq_getElem (by omega)⟩
        have hxo := hKok x (List.mem_of_getElem? hx)
        have hdr : K.drop m = x :: K.drop (m + 1) := by
          rw [List.drop_eq_getElem_cons (by omega)]
          congr 1
          have := List.getElem?_eq_getElem (show m < K.length by omega)
          rw [hx] at this
          exact (Option.some.inj this).symm
        have hrest : ∀ y, y ∈ K.drop (m + 1) → y.ok := fun y hy => hKok y (List.mem_of_mem_drop hy)
        have hrp := rput_fn ⟨x.addr, x.bits, 0⟩ hxo
        have hput := put_ar (len := len3) ht3 x hxo
        rw [show (((m + 1 : Nat) : Int) - 1) = ((m : Nat) : Int) by omega]
        have em : IntKind.i64.wrap (((m : Nat) : Int) - 1) = ((m : Nat) : Int) - 1 := IntWalk.i64_in _ (by omega)
        conv => whnf
        refine ⟨rfl, ⟨by omega, by omega⟩, ?_⟩
        conv => whnf
        refine ⟨rfl, by show Int.toNat ((m : Nat) : Int) < _; omega, fun z hz => ?_⟩
        obtain rfl : x = z := Option.some.inj (hx.symm.trans hz)
        conv => whnf
        refine CallVC.pure hrp rfl ?_
        rintro _ rfl
        have hkr := keyA_range x hxo
        cases hv : validN x with
        | false =>
          have hka : keyA x = (0, -1) := by unfold keyA; rw [hv]
          rw [show putN ⟨x.addr, x.bits, 0⟩ = .tup [.v (.slice none 0 0), boolD false] by unfold putN; rw [show validN ⟨x.addr, x.bits, 0⟩ = validN x from rfl, hv]]
          conv => whnf
          obtain ⟨lk, hlk⟩ := net_key (keyA x).1 (keyA x).2 hkr.1 hkr.2
          have hLk : ∀ e, e ∈ Kl.map ent → ∃ l, keyOf Try.prog 28 e.key = some l := fun e he => by
            obtain ⟨y, hy, rfl⟩ := List.mem_map.1 he
            exact net_key _ _ (hkeys.1 y hy).1 (hkeys.1 y hy).2
          rw [hka] at hlk
          refine op_lookupK (id := 3) (z := .bool false) (vs := [.int .u32 ((0 : Nat) : Int), .int .i64 (-1), .int .i64 0]) (L := Kl.map ent) rfl Try.underlying30 (by kernel_rfl) net_law rfl rfl rfl hlk hLk ?_ ?_
          · intro hno
            have hnew : ∀ y, y ∈ K.drop (m + 1) → keyA y ≠ keyA x := fun y hy e => by
              obtain ⟨z, hz1, hz2⟩ := (hkeys.2 (keyA x)).2 ⟨y, hy, e⟩
              refine hno (ent z) (List.mem_map_of_mem hz1) ?_
              unfold ent
              rw [hz2, hka]; rfl
            have hlast : lastV (K.drop m) = putV (lastV (K.drop (m + 1))) x := by rw [hdr]; exact lastV_new hxo hrest hnew
            have hk2 : ∀ c, keysOk (Kl ++ [(keyA x, c)]) (K.drop m) := fun c => ⟨fun y hy => by
              rcases List.mem_append.1 hy with hy | hy
              · exact hkeys.1 y hy
              · rw [List.mem_singleton.1 hy]; exact hkr, fun q => by
              rw [hdr]
              constructor
              · rintro ⟨y, hy, rfl⟩
                rcases List.mem_append.1 hy with hy | hy
                · obtain ⟨z, h1, h2⟩ := (hkeys.2 y.1).1 ⟨y, hy, rfl⟩
                  exact ⟨z, List.mem_cons_of_mem _ h1, h2⟩
                · rw [List.mem_singleton.1 hy]; exact ⟨x, List.mem_cons_self, rfl⟩
              · rintro ⟨z, hz, rfl⟩
                rcases List.mem_cons.1 hz with rfl | hz
                · exact ⟨_, List.mem_append_right _ (List.mem_singleton.2 rfl), rfl⟩
                · obtain ⟨y, h1, h2⟩ := (hkeys.2 (keyA z)).2 ⟨z, hz, rfl⟩
                  exact ⟨y, List.mem_append_left _ h1, h2⟩⟩
            conv => whnf
            refine CallVC.ar (i := 1) hput rfl rfl ?_
            intro d M S4 hq
            rw [show decide (0 ≤ x.bits ∧ x.bits ≤ 32) = validN x from rfl, hv] at hq
            obtain ⟨rfl, rfl⟩ := hq
            have hsame : lastV (K.drop m) = lastV (K.drop (m + 1)) := by
              rw [hlast]
              unfold putV
              rw [hv]
            conv => whnf
            refine op_addK (id := 3) (vs := [.int .u32 ((0 : Nat) : Int), .int .i64 (-1), .int .i64 0]) (L := Kl.map ent) rfl Try.underlying30 net_law rfl rfl rfl rfl hlk hLk hno ?_
            rw [show (Kl.map ent ++ [({ key := .agg [.int .u32 ((0 : Nat) : Int), .int .i64 (-1), .int .i64 0].toArray, val := .bool true, born := cc } : MapEntry)]) = (Kl ++ [(keyA x, cc)]).map ent by rw [List.map_append, hka]; rfl]
            conv => whnf
            rw [em]
            refine ⟨(m, S4, N3, len3, Kl ++ [(keyA x, cc)], cc + 1), [], [], ?_, ⟨by omega, by rw [hsame]; exact ht3, hk2 cc⟩, Nat.lt_succ_self m⟩
            dsimp only
            rw [hsame]
            repeat' (first | exact trivial | exact .inl (DLe.refl _) | exact .inl (DLe.nil _ _) | (refine .inr ⟨rfl, _, ?_, rfl⟩; rfl) | exact rfl | exact .inl rfl | exact .inr ⟨rfl, rfl, rfl, rfl⟩ | exact Nat.zero_le _ | constructor)
          · intro e he hek
            have hval : e.val = .bool true := by
              obtain ⟨y, hy, rfl⟩ := List.mem_map.1 he
              rfl
            have hold : ∃ y, y ∈ K.drop (m + 1) ∧ keyA y = keyA x := by
              obtain ⟨y, hy, rfl⟩ := List.mem_map.1 he
              refine (hkeys.2 (keyA x)).1 ⟨y, hy, ?_⟩
              rw [hka]
              exact netK_inj hek
            have hlast : lastV (K.drop m) = lastV (K.drop (m + 1)) := by rw [hdr]; exact lastV_met hxo hrest hold
            have hk2 : keysOk Kl (K.drop m) := ⟨hkeys.1, fun q => by
              rw [hdr]
              refine (hkeys.2 q).trans ⟨fun ⟨z, h1, h2⟩ => ⟨z, List.mem_cons_of_mem _ h1, h2⟩, fun ⟨z, h1, h2⟩ => ?_⟩
              rcases List.mem_cons.1 h1 with rfl | h1
              · obtain ⟨y, h3, h4⟩ := hold
                exact ⟨y, h3, h4.trans h2⟩
              · exact ⟨z, h1, h2⟩⟩
            rw [hval]
            conv => whnf
            rw [em]
            refine ⟨(m, S3, N3, len3, Kl, cc), [], [], ?_, ⟨by omega, by rw [hlast]; exact ht3, hk2⟩, Nat.lt_succ_self m⟩
            dsimp only
            rw [hlast]
            repeat' (first | exact trivial | exact .inl (DLe.refl _) | exact .inl (DLe.nil _ _) | (refine .inr ⟨rfl, _, ?_, rfl⟩; rfl) | exact rfl | exact .inl rfl | exact .inr ⟨rfl, rfl, rfl, rfl⟩ | exact Nat.zero_le _ | constructor)
        | true =>
          have hka : keyA x = (firstN x.addr x.bits.toNat, x.bits) := by unfold keyA; rw [hv]
          rw [show putN ⟨x.addr, x.bits, 0⟩ = .tup [rowsL [⟨firstN x.addr x.bits.toNat, x.bits, 0⟩], boolD true] by unfold putN; rw [show validN ⟨x.addr, x.bits, 0⟩ = validN x from rfl, hv]]
          conv => whnf
          refine ⟨rfl, ⟨by decide, by show (0 : Int) < 1; decide⟩, fun z hz => ?_⟩
          obtain rfl : (⟨firstN x.addr x.bits.toNat, x.bits, 0⟩ : LNet) = z := Option.some.inj hz
          conv => whnf
          refine ⟨rfl, ⟨by decide, by show (0 : Int) < 1; decide⟩, fun z hz => ?_⟩
          obtain rfl : (⟨firstN x.addr x.bits.toNat, x.bits, 0⟩ : LNet) = z := Option.some.inj hz
          conv => whnf
          obtain ⟨lk, hlk⟩ := net_key (keyA x).1 (keyA x).2 hkr.1 hkr.2
          have hLk : ∀ e, e ∈ Kl.map ent → ∃ l, keyOf Try.prog 28 e.key = some l := fun e he => by
            obtain ⟨y, hy, rfl⟩ := List.mem_map.1 he
            exact net_key _ _ (hkeys.1 y hy).1 (hkeys.1 y hy).2
          rw [hka] at hlk
          refine op_lookupK (id := 3) (z := .bool false) (vs := [.int .u32 ((firstN x.addr x.bits.toNat : Nat) : Int), .int .i64 x.bits, .int .i64 0]) (L := Kl.map ent) rfl Try.underlying30 (by kernel_rfl) net_law rfl rfl rfl hlk hLk ?_ ?_
          · intro hno
            have hnew : ∀ y, y ∈ K.drop (m + 1) → keyA y ≠ keyA x := fun y hy e => by
              obtain ⟨z, hz1, hz2⟩ := (hkeys.2 (keyA x)).2 ⟨y, hy, e⟩
              refine hno (ent z) (List.mem_map_of_mem hz1) ?_
              unfold ent
              rw [hz2, hka]; rfl
            have hlast : lastV (K.drop m) = putV (lastV (K.drop (m + 1))) x := by rw [hdr]; exact lastV_new hxo hrest hnew
            have hk2 : ∀ c, keysOk (Kl ++ [(keyA x, c)]) (K.drop m) := fun c => ⟨fun y hy => by
              rcases List.mem_append.1 hy with hy | hy
              · exact hkeys.1 y hy
              · rw [List.mem_singleton.1 hy]; exact hkr, fun q => by
              rw [hdr]
              constructor
              · rintro ⟨y, hy, rfl⟩
                rcases List.mem_append.1 hy with hy | hy
                · obtain ⟨z, h1, h2⟩ := (hkeys.2 y.1).1 ⟨y, hy, rfl⟩
                  exact ⟨z, List.mem_cons_of_mem _ h1, h2⟩
                · rw [List.mem_singleton.1 hy]; exact ⟨x, List.mem_cons_self, rfl⟩
              · rintro ⟨z, hz, rfl⟩
                rcases List.mem_cons.1 hz with rfl | hz
                · exact ⟨_, List.mem_append_right _ (List.mem_singleton.2 rfl), rfl⟩
                · obtain ⟨y, h1, h2⟩ := (hkeys.2 (keyA z)).2 ⟨z, hz, rfl⟩
                  exact ⟨y, List.mem_append_left _ h1, h2⟩⟩
            conv => whnf
            refine CallVC.ar (i := 1) hput rfl rfl ?_
            intro d M S4 hq
            rw [show decide (0 ≤ x.bits ∧ x.bits ≤ 32) = validN x from rfl, hv] at hq
            obtain ⟨N4, len4, ht4, rfl, rfl⟩ := hq
            have hpv : setV (lastV (K.drop (m + 1))) (way x.addr x.bits.toNat) (some x.num) = lastV (K.drop m) := by
              rw [hlast]
              unfold putV
              rw [hv]
              rfl
            rw [hpv] at ht4 ⊢
            conv => whnf
            refine op_addK (id := 3) (vs := [.int .u32 ((firstN x.addr x.bits.toNat : Nat) : Int), .int .i64 x.bits, .int .i64 0]) (L := Kl.map ent) rfl Try.underlying30 net_law rfl rfl rfl rfl hlk hLk hno ?_
            rw [show (Kl.map ent ++ [({ key := .agg [.int .u32 ((firstN x.addr x.bits.toNat : Nat) : Int), .int .i64 x.bits, .int .i64 0].toArray, val := .bool true, born := cc } : MapEntry)]) = (Kl ++ [(keyA x, cc)]).map ent by rw [List.map_append, hka]; rfl]
            conv => whnf
            rw [em]
            refine ⟨(m, S4, N4, len4, Kl ++ [(keyA x, cc)], cc + 1), [], [], ?_, ⟨by omega, ht4, hk2 cc⟩, Nat.lt_succ_self m⟩
            dsimp only
            skip
            repeat' (first | exact trivial | exact .inl (DLe.refl _) | exact .inl (DLe.nil _ _) | (refine .inr ⟨rfl, _, ?_, rfl⟩; rfl) | exact rfl | exact .inl rfl | exact .inr ⟨rfl, rfl, rfl, rfl⟩ | exact Nat.zero_le _ | constructor)
          · intro e he hek
            have hval : e.val = .bool true := by
              obtain ⟨y, hy, rfl⟩ := List.mem_map.1 he
              rfl
            have hold : ∃ y, y ∈ K.drop (m + 1) ∧ keyA y = keyA x := by
              obtain ⟨y, hy, rfl⟩ := List.mem_map.1 he
              refine (hkeys.2 (keyA x)).1 ⟨y, hy, ?_⟩
              rw [hka]
              exact netK_inj hek
            have hlast : lastV (K.drop m) = lastV (K.drop (m + 1)) := by rw [hdr]; exact lastV_met hxo hrest hold
            have hk2 : keysOk Kl (K.drop m) := ⟨hkeys.1, fun q => by
              rw [hdr]
              refine (hkeys.2 q).trans ⟨fun ⟨z, h1, h2⟩ => ⟨z, List.mem_cons_of_mem _ h1, h2⟩, fun ⟨z, h1, h2⟩ => ?_⟩
              rcases List.mem_cons.1 h1 with rfl | h1
              · obtain ⟨y, h3, h4⟩ := hold
                exact ⟨y, h3, h4.trans h2⟩
              · exact ⟨z, h1, h2⟩⟩
            rw [hval]
            conv => whnf
            rw [em]
            refine ⟨(m, S3, N3, len3, Kl, cc), [], [], ?_, ⟨by omega, by rw [hlast]; exact ht3, hk2⟩, Nat.lt_succ_self m⟩
            dsimp only
            rw [hlast]
            repeat' (first | exact trivial | exact .inl (DLe.refl _) | exact .inl (DLe.nil _ _) | (refine .inr ⟨rfl, _, ?_, rfl⟩; rfl) | exact rfl | exact .inl rfl | exact .inr ⟨rfl, rfl, rfl, rfl⟩ | exact Nat.zero_le _ | constructor)
      · have r' : j = 0 := by have := of_decide_eq_false r; omega
        subst r'
        rw [List.drop_zero] at ht3 ⊢
        clear hkeys
        conv => whnf
        refine ⟨Nat × (Nat → Prop) × (List Nat → Option Nat) × Int, fun x => ⟨[(15, intD x.1), (6, .v (.pointer (some ⟨gu, 0, none⟩))), (5, .v (.pointer (some ⟨gt, 0, none⟩))), (1, rowsL extra)],
          [(0, arL S (triA N (lastV K) gt len)), (1, arL x.2.1 (triA x.2.2.1 (lastV K) gu x.2.2.2))], 2, ([], 0)⟩,
          fun x => x.1 ≤ 20 ∧ x.1 ≤ extra.length ∧ TriOk x.2.2.1 (lastV K) gu, fun x => 20 - x.1, ⟨(0, S3, N3, len3), [], [], ?_, ⟨Nat.zero_le _, Nat.zero_le _, ht3⟩⟩, ?_⟩
        · repeat' (first | exact trivial | exact .inl (DLe.refl _) | exact .inl (DLe.nil _ _) | (refine .inr ⟨rfl, _, ?_, rfl⟩; rfl) | exact rfl | exact .inl rfl | exact .inr ⟨rfl, rfl, rfl, rfl⟩ | exact Nat.zero_le _ | constructor)
        clear ht3 len3 S3 N3
        rintro ⟨i, S3, N3, len3⟩ ⟨hi1, hi2, ht3⟩
        dsimp only at hi1 hi2 ht3 ⊢
        have ei := wrapN (n := i) (by omega)
        conv => whnf
        refine Fork.intro (fun c1 => ?_) (fun c1 => ?_)
        · have c1' : i < extra.length := by have := of_decide_eq_true c1; omega
          conv => whnf
          refine Fork.intro (fun c2 => ?_) (fun c2 => ?_)
          · have c2' : i < 20 := by have := of_decide_eq_true c2; omega
            obtain ⟨x, hx⟩ : ∃ x, extra[i]? = some x := ⟨_, List.getElem?_eq_getElem c1'⟩
            have hxo := he x (List.mem_of_getElem? hx)
            have hput := put_ar (len := len3) ht3 x hxo
            conv => whnf
            (refine ⟨rfl, ⟨by omega, by omega⟩, fun y hy => ?_⟩; obtain rfl : x = y := Option.some.inj (hx.symm.trans hy); conv => whnf)
            refine CallVC.ar (i := 1) hput rfl rfl ?_
            intro d M S4 hq
            cases hv : decide (0 ≤ x.bits ∧ x.bits ≤ 32) with
            | false =>
              rw [hv] at hq
              obtain ⟨rfl, rfl⟩ := hq
              conv => whnf
              (refine CallVC.pure (hlv) rfl ?_; rintro _ rfl; conv => whnf)
            | true =>
              rw [hv] at hq
              obtain ⟨N4, len4, ht4, rfl, rfl⟩ := hq
              cases hV : lastV K (way x.addr x.bits.toNat) with
              | some v =>
                conv => whnf
                (refine CallVC.pure (hlv) rfl ?_; rintro _ rfl; conv => whnf)
              | none =>
                have hdrop := drop_ar (len := len4) ht4 x.addr x.bits hxo
                rw [hv, setV_same] at hdrop
                conv => whnf
                refine ⟨{b : (Nat → Prop) × (List Nat → Option Nat) × Int // TriOk b.2.1 (lastV K) gu}, fun b => ⟨[(15, intD i), (6, .v (.pointer (some ⟨gu, 0, none⟩))), (5, .v (.pointer (some ⟨gt, 0, none⟩))), (1, rowsL extra)],
                  [(0, arL S (triA N (lastV K) gt len)), (1, arL b.val.1 (triA b.val.2.1 (lastV K) gu b.val.2.2))], 2, ([], 0)⟩, ?_, fun b => ?_⟩
                · conv => whnf
                  (refine ⟨rfl, ⟨by omega, by omega⟩, fun y hy => ?_⟩; obtain rfl : x = y := Option.some.inj (hx.symm.trans hy); conv => whnf)
                  (refine ⟨rfl, ⟨by omega, by omega⟩, fun y hy => ?_⟩; obtain rfl : x = y := Option.some.inj (hx.symm.trans hy); conv => whnf)
                  refine ⟨?_, ?_, trivial⟩
                  · conv => whnf
                    refine ⟨?_, trivial⟩
                    conv => whnf
                    refine ⟨?_, trivial⟩
                    conv => whnf
                    refine CallVC.ar (i := 1) hdrop rfl rfl ?_
                    rintro _ _ S5 ⟨N5, len5, ht5, rfl, rfl⟩
                    rw [drop_put hV] at ht5 ⊢
                    conv => whnf
                    refine ⟨⟨(S5, N5, len5), ht5⟩, [], [], ?_⟩
                    repeat' (first | exact trivial | exact .inl (DLe.refl _) | exact .inl (DLe.nil _ _) | (refine .inr ⟨rfl, _, ?_, rfl⟩; rfl) | exact rfl | exact .inl rfl | exact .inr ⟨rfl, rfl, rfl, rfl⟩ | exact Nat.zero_le _ | constructor)
                  · conv => whnf
                    refine ⟨?_, trivial⟩
                    conv => whnf
                    refine ⟨?_, trivial⟩
                    conv => whnf
                    refine CallVC.ar (i := 1) hdrop rfl rfl ?_
                    rintro _ _ S5 ⟨N5, len5, ht5, rfl, rfl⟩
                    rw [drop_put hV] at ht5 ⊢
                    conv => whnf
                    refine ⟨⟨(S5, N5, len5), ht5⟩, [], [], ?_⟩
                    repeat' (first | exact trivial | exact .inl (DLe.refl _) | exact .inl (DLe.nil _ _) | (refine .inr ⟨rfl, _, ?_, rfl⟩; rfl) | exact rfl | exact .inl rfl | exact .inr ⟨rfl, rfl, rfl, rfl⟩ | exact Nat.zero_le _ | constructor)
                · obtain ⟨⟨S5, N5, len5⟩, ht5⟩ := b
                  dsimp only
                  conv => whnf
                  rw [ei]
                  refine ⟨(i + 1, S5, N5, len5), [], [], ?_, ⟨c2', c1', ht5⟩, by show 20 - (i + 1) < 20 - i; omega⟩
                  repeat' (first | exact trivial | exact .inl (DLe.refl _) | exact .inl (DLe.nil _ _) | (refine .inr ⟨rfl, _, ?_, rfl⟩; rfl) | exact rfl | exact .inl rfl | exact .inr ⟨rfl, rfl, rfl, rfl⟩ | exact Nat.zero_le _ | constructor)
          · have ha0 := all_ar (len := len) ht
            have ha1 := all_ar (len := len3) ht3
            have hgl := gl_len (lastV K) 32 [] 0
            generalize gl (lastV K) 32 [] 0 = G at *
            replace hgl : G.length + 1 ≤ 8589934592 := hgl
            conv => whnf
            refine CallVC.ar (i := 0) ha0 rfl rfl ?_
            rintro _ _ S6 ⟨rfl, rfl⟩
            conv => whnf
            refine CallVC.ar (i := 1) ha1 rfl rfl ?_
            rintro _ _ S7 ⟨rfl, rfl⟩
            conv => whnf
            rw [show decide ((G.length : Int) = (G.length : Int)) = true from decide_eq_true rfl]
            conv => whnf
            refine ⟨Nat, fun i => ⟨[(18, intD i), (17, rowsL G), (16, rowsL G)], [], 0, ([], 0)⟩, fun i => i ≤ G.length, fun i => G.length - i, ⟨0, [], [], ?_, Nat.zero_le _⟩, ?_⟩
            · repeat' (first | exact trivial | exact .inl (DLe.refl _) | exact .inl (DLe.nil _ _) | (refine .inr ⟨rfl, _, ?_, rfl⟩; rfl) | exact rfl | exact .inl rfl | exact .inr ⟨rfl, rfl, rfl, rfl⟩ | exact Nat.zero_le _ | constructor)
            intro i hi
            replace hi : i ≤ G.length := hi
            have ei : IntKind.i64.wrap ((i : Int) + 1) = ((i + 1 : Nat) : Int) := by rw [IntWalk.i64_in _ (by omega)]; omega
            conv => whnf
            refine Fork.intro (fun d1 => ?_) (fun d1 => ?_)
            · have d1' : i < G.length := by have := of_decide_eq_true d1; omega
              obtain ⟨x, hx⟩ : ∃ x, G[i]? = some x := ⟨_, List.getElem?_eq_getElem d1'⟩
              conv => whnf
              refine ⟨rfl, ⟨by omega, by omega⟩, fun y hy => ?_⟩
              obtain rfl : x = y := Option.some.inj (hx.symm.trans hy)
              conv => whnf
              refine ⟨rfl, ⟨by omega, by omega⟩, fun y hy => ?_⟩
              obtain rfl : x = y := Option.some.inj (hx.symm.trans hy)
              conv => whnf
              refine ⟨by kernel_rfl, rfl, ?_⟩
              conv => whnf
              rw [show eqD [u32D x.addr, intD x.bits, intD x.num] [u32D x.addr, intD x.bits, intD x.num] = true by simp [eqD]]
              conv => whnf
              rw [ei]
              refine ⟨i + 1, [], [], ?_, by show i + 1 ≤ G.length; omega, by show G.length - (i + 1) < G.length - i; omega⟩
              repeat' (first | exact trivial | exact .inl (DLe.refl _) | exact .inl (DLe.nil _ _) | (refine .inr ⟨rfl, _, ?_, rfl⟩; rfl) | exact rfl | exact .inl rfl | exact .inr ⟨rfl, rfl, rfl, rfl⟩ | exact Nat.zero_le _ | constructor)
            · conv => whnf
              (refine CallVC.pure (hlv) rfl ?_; rintro _ rfl; conv => whnf)
        · have ha0 := all_ar (len := len) ht
          have ha1 := all_ar (len := len3) ht3
          have hgl := gl_len (lastV K) 32 [] 0
          generalize gl (lastV K) 32 [] 0 = G at *
          replace hgl : G.length + 1 ≤ 8589934592 := hgl
          conv => whnf
          refine CallVC.ar (i := 0) ha0 rfl rfl ?_
          rintro _ _ S6 ⟨rfl, rfl⟩
          conv => whnf
          refine CallVC.ar (i := 1) ha1 rfl rfl ?_
          rintro _ _ S7 ⟨rfl, rfl⟩
          conv => whnf
          rw [show decide ((G.length : Int) = (G.length : Int)) = true from decide_eq_true rfl]
          conv => whnf
          refine ⟨Nat, fun i => ⟨[(18, intD i), (17, rowsL G), (16, rowsL G)], [], 0, ([], 0)⟩, fun i => i ≤ G.length, fun i => G.length - i, ⟨0, [], [], ?_, Nat.zero_le _⟩, ?_⟩
          · repeat' (first | exact trivial | exact .inl (DLe.refl _) | exact .inl (DLe.nil _ _) | (refine .inr ⟨rfl, _, ?_, rfl⟩; rfl) | exact rfl | exact .inl rfl | exact .inr ⟨rfl, rfl, rfl, rfl⟩ | exact Nat.zero_le _ | constructor)
          intro i hi
          replace hi : i ≤ G.length := hi
          have ei : IntKind.i64.wrap ((i : Int) + 1) = ((i + 1 : Nat) : Int) := by rw [IntWalk.i64_in _ (by omega)]; omega
          conv => whnf
          refine Fork.intro (fun d1 => ?_) (fun d1 => ?_)
          · have d1' : i < G.length := by have := of_decide_eq_true d1; omega
            obtain ⟨x, hx⟩ : ∃ x, G[i]? = some x := ⟨_, List.getElem?_eq_getElem d1'⟩
            conv => whnf
            refine ⟨rfl, ⟨by omega, by omega⟩, fun y hy => ?_⟩
            obtain rfl : x = y := Option.some.inj (hx.symm.trans hy)
            conv => whnf
            refine ⟨rfl, ⟨by omega, by omega⟩, fun y hy => ?_⟩
            obtain rfl : x = y := Option.some.inj (hx.symm.trans hy)
            conv => whnf
            refine ⟨by kernel_rfl, rfl, ?_⟩
            conv => whnf
            rw [show eqD [u32D x.addr, intD x.bits, intD x.num] [u32D x.addr, intD x.bits, intD x.num] = true by simp [eqD]]
            conv => whnf
            rw [ei]
            refine ⟨i + 1, [], [], ?_, by show i + 1 ≤ G.length; omega, by show G.length - (i + 1) < G.length - i; omega⟩
            repeat' (first | exact trivial | exact .inl (DLe.refl _) | exact .inl (DLe.nil _ _) | (refine .inr ⟨rfl, _, ?_, rfl⟩; rfl) | exact rfl | exact .inl rfl | exact .inr ⟨rfl, rfl, rfl, rfl⟩ | exact Nat.zero_le _ | constructor)
          · conv => whnf
            (refine CallVC.pure (hlv) rfl ?_; rintro _ rfl; conv => whnf)
  · replace hk2 : l.take k = l.take 40 := (by have := of_decide_eq_false q; rw [List.take_of_length_le (by omega), List.take_of_length_le (by omega)])
    rw [hk2] at ht ⊢
    have hKok : netsOk (l.take 40) := fun n hn => hl n (List.mem_of_mem_take hn)
    have hKl : (l.take 40).length ≤ 40 := by rw [List.length_take]; omega
    generalize l.take 40 = K at *
    clear hl
    have e1 : IntKind.i64.wrap ((K.length : Int) - 1) = (K.length : Int) - 1 := IntWalk.i64_in _ (by omega)
    conv => whnf
    refine op_makeMap rfl ?_
    conv => whnf
    rw [e1]
    refine ⟨Nat × (Nat → Prop) × (List Nat → Option Nat) × Int × List ((Nat × Int) × Nat) × Nat, fun x => ⟨[(10, intD ((x.1 : Int) - 1)), (9, .mapr 3), (7, .grow 2), (6, .v (.pointer (some ⟨gu, 0, none⟩))), (5, .v (.pointer (some ⟨gt, 0, none⟩))), (1, rowsL extra)],
      [(0, arL S (triA N (lastV K) gt len)), (1, arL x.2.1 (triA x.2.2.1 (lastV (K.drop x.1)) gu x.2.2.2.1)), (2, .grow LNet 28 3 netC K), (3, .obj (.ob (.map (x.2.2.2.2.1.map ent).toArray x.2.2.2.2.2)))], 4, ([], 0)⟩,
      fun x => x.1 ≤ K.length ∧ TriOk x.2.2.1 (lastV (K.drop x.1)) gu ∧ keysOk x.2.2.2.2.1 (K.drop x.1), fun x => x.1, ⟨(K.length, S1, Nu, 0, [], 0), [], [], ?_, ⟨Nat.le_refl _, by dsimp only; rw [List.drop_length]; exact hu0, by dsimp only; rw [List.drop_length]; exact keysOk_nil⟩⟩, ?_⟩
    · dsimp only
      rw [List.drop_length]
      repeat' (first | exact trivial | exact .inl (DLe.refl _) | exact .inl (DLe.nil _ _) | (refine .inr ⟨rfl, _, ?_, rfl⟩; rfl) | exact rfl | exact .inl rfl | exact .inr ⟨rfl, rfl, rfl, rfl⟩ | exact Nat.zero_le _ | constructor)
    clear hu0
    rintro ⟨j, S3, N3, len3, Kl, cc⟩ ⟨hj, ht3, hkeys⟩
    dsimp only at hj ht3 hkeys ⊢
    conv => whnf
    refine Fork.intro (fun r => ?_) (fun r => ?_)
    · have r' : 0 < j := by have := of_decide_eq_true r; omega
      obtain ⟨m, rfl⟩ : ∃ m, j = m + 1 := ⟨j - 1, by omega⟩
      obtain ⟨x, hx⟩ : ∃ x, K[m]? = some x := ⟨_, List.getElem?_eq_getElem (by omega)⟩
      have hxo := hKok x (List.mem_of_getElem? hx)
      have hdr : K.drop m = x :: K.drop (m + 1) := by
        rw [List.drop_eq_getElem_cons (by omega)]
        congr 1
        have := List.getElem?_eq_getElem (show m < K.length by omega)
        rw [hx] at this
        exact (Option.some.inj this).symm
      have hrest : ∀ y, y ∈ K.drop (m + 1) → y.ok := fun y hy => hKok y (List.mem_of_mem_drop hy)
      have hrp := rput_fn ⟨x.addr, x.bits, 0⟩ hxo
      have hput := put_ar (len := len3) ht3 x hxo
      rw [show (((m + 1 : Nat) : Int) - 1) = ((m : Nat) : Int) by omega]
      have em : IntKind.i64.wrap (((m : Nat) : Int) - 1) = ((m : Nat) : Int) - 1 := IntWalk.i64_in _ (by omega)
      conv => whnf
      refine ⟨rfl, ⟨by omega, by omega⟩, ?_⟩
      conv => whnf
      refine ⟨rfl, by show Int.toNat ((m : Nat) : Int) < _; omega, fun z hz => ?_⟩
      obtain rfl : x = z := Option.some.inj (hx.symm.trans hz)
      conv => whnf
      refine CallVC.pure hrp rfl ?_
      rintro _ rfl
      have hkr := keyA_range x hxo
      cases hv : validN x with
      | false =>
        have hka : keyA x = (0, -1) := by unfold keyA; rw [hv]
        rw [show putN ⟨x.addr, x.bits, 0⟩ = .tup [.v (.slice none 0 0), boolD false] by unfold putN; rw [show validN ⟨x.addr, x.bits, 0⟩ = validN x from rfl, hv]]
        conv => whnf
        obtain ⟨lk, hlk⟩ := net_key (keyA x).1 (keyA x).2 hkr.1 hkr.2
        have hLk : ∀ e, e ∈ Kl.map ent → ∃ l, keyOf Try.prog 28 e.key = some l := fun e he => by
          obtain ⟨y, hy, rfl⟩ := List.mem_map.1 he
          exact net_key _ _ (hkeys.1 y hy).1 (hkeys.1 y hy).2
        rw [hka] at hlk
        refine op_lookupK (id := 3) (z := .bool false) (vs := [.int .u32 ((0 : Nat) : Int), .int .i64 (-1), .int .i64 0]) (L := Kl.map ent) rfl Try.underlying30 (by kernel_rfl) net_law rfl rfl rfl hlk hLk ?_ ?_
        · intro hno
          have hnew : ∀ y, y ∈ K.drop (m + 1) → keyA y ≠ keyA x := fun y hy e => by
            obtain ⟨z, hz1, hz2⟩ := (hkeys.2 (keyA x)).2 ⟨y, hy, e⟩
            refine hno (ent z) (List.mem_map_of_mem hz1) ?_
            unfold ent
            rw [hz2, hka]; rfl
          have hlast : lastV (K.drop m) = putV (lastV (K.drop (m + 1))) x := by rw [hdr]; exact lastV_new hxo hrest hnew
          have hk2 : ∀ c, keysOk (Kl ++ [(keyA x, c)]) (K.drop m) := fun c => ⟨fun y hy => by
            rcases List.mem_append.1 hy with hy | hy
            · exact hkeys.1 y hy
            · rw [List.mem_singleton.1 hy]; exact hkr, fun q => by
            rw [hdr]
            constructor
            · rintro ⟨y, hy, rfl⟩
              rcases List.mem_append.1 hy with hy | hy
              · obtain ⟨z, h1, h2⟩ := (hkeys.2 y.1).1 ⟨y, hy, rfl⟩
                exact ⟨z, List.mem_cons_of_mem _ h1, h2⟩
              · rw [List.mem_singleton.1 hy]; exact ⟨x, List.mem_cons_self, rfl⟩
            · rintro ⟨z, hz, rfl⟩
              rcases List.mem_cons.1 hz with rfl | hz
              · exact ⟨_, List.mem_append_right _ (List.mem_singleton.2 rfl), rfl⟩
              · obtain ⟨y, h1, h2⟩ := (hkeys.2 (keyA z)).2 ⟨z, hz, rfl⟩
                exact ⟨y, List.mem_append_left _ h1, h2⟩⟩
          conv => whnf
          refine CallVC.ar (i := 1) hput rfl rfl ?_
          intro d M S4 hq
          rw [show decide (0 ≤ x.bits ∧ x.bits ≤ 32) = validN x from rfl, hv] at hq
          obtain ⟨rfl, rfl⟩ := hq
          have hsame : lastV (K.drop m) = lastV (K.drop (m + 1)) := by
            rw [hlast]
            unfold putV
            rw [hv]
          conv => whnf
          refine op_addK (id := 3) (vs := [.int .u32 ((0 : Nat) : Int), .int .i64 (-1), .int .i64 0]) (L := Kl.map ent) rfl Try.underlying30 net_law rfl rfl rfl rfl hlk hLk hno ?_
          rw [show (Kl.map ent ++ [({ key := .agg [.int .u32 ((0 : Nat) : Int), .int .i64 (-1), .int .i64 0].toArray, val := .bool true, born := cc } : MapEntry)]) = (Kl ++ [(keyA x, cc)]).map ent by rw [List.map_append, hka]; rfl]
          conv => whnf
          rw [em]
          refine ⟨(m, S4, N3, len3, Kl ++ [(keyA x, cc)], cc + 1), [], [], ?_, ⟨by omega, by rw [hsame]; exact ht3, hk2 cc⟩, Nat.lt_succ_self m⟩
          dsimp only
          rw [hsame]
          repeat' (first | exact trivial | exact .inl (DLe.refl _) | exact .inl (DLe.nil _ _) | (refine .inr ⟨rfl, _, ?_, rfl⟩; rfl) | exact rfl | exact .inl rfl | exact .inr ⟨rfl, rfl, rfl, rfl⟩ | exact Nat.zero_le _ | constructor)
        · intro e he hek
          have hval : e.val = .bool true := by
            obtain ⟨y, hy, rfl⟩ := List.mem_map.1 he
            rfl
          have hold : ∃ y, y ∈ K.drop (m + 1) ∧ keyA y = keyA x := by
            obtain ⟨y, hy, rfl⟩ := List.mem_map.1 he
            refine (hkeys.2 (keyA x)).1 ⟨y, hy, ?_⟩
            rw [hka]
            exact netK_inj hek
          have hlast : lastV (K.drop m) = lastV (K.drop (m + 1)) := by rw [hdr]; exact lastV_met hxo hrest hold
          have hk2 : keysOk Kl (K.drop m) := ⟨hkeys.1, fun q => by
            rw [hdr]
            refine (hkeys.2 q).trans ⟨fun ⟨z, h1, h2⟩ => ⟨z, List.mem_cons_of_mem _ h1, h2⟩, fun ⟨z, h1, h2⟩ => ?_⟩
            rcases List.mem_cons.1 h1 with rfl | h1
            · obtain ⟨y, h3, h4⟩ := hold
              exact ⟨y, h3, h4.trans h2⟩
            · exact ⟨z, h1, h2⟩⟩
          rw [hval]
          conv => whnf
          rw [em]
          refine ⟨(m, S3, N3, len3, Kl, cc), [], [], ?_, ⟨by omega, by rw [hlast]; exact ht3, hk2⟩, Nat.lt_succ_self m⟩
          dsimp only
          rw [hlast]
          repeat' (first | exact trivial | exact .inl (DLe.refl _) | exact .inl (DLe.nil _ _) | (refine .inr ⟨rfl, _, ?_, rfl⟩; rfl) | exact rfl | exact .inl rfl | exact .inr ⟨rfl, rfl, rfl, rfl⟩ | exact Nat.zero_le _ | constructor)
      | true =>
        have hka : keyA x = (firstN x.addr x.bits.toNat, x.bits) := by unfold keyA; rw [hv]
        rw [show putN ⟨x.addr, x.bits, 0⟩ = .tup [rowsL [⟨firstN x.addr x.bits.toNat, x.bits, 0⟩], boolD true] by unfold putN; rw [show validN ⟨x.addr, x.bits, 0⟩ = validN x from rfl, hv]]
        conv => whnf
        refine ⟨rfl, ⟨by decide, by show (0 : Int) < 1; decide⟩, fun z hz => ?_⟩
        obtain rfl : (⟨firstN x.addr x.bits.toNat, x.bits, 0⟩ : LNet) = z := Option.some.inj hz
        conv => whnf
        refine ⟨rfl, ⟨by decide, by show (0 : Int) < 1; decide⟩, fun z hz => ?_⟩
        obtain rfl : (⟨firstN x.addr x.bits.toNat, x.bits, 0⟩ : LNet) = z := Option.some.inj hz
        conv => whnf
        obtain ⟨lk, hlk⟩ := net_key (keyA x).1 (keyA x).2 hkr.1 hkr.2
        have hLk : ∀ e, e ∈ Kl.map ent → ∃ l, keyOf Try.prog 28 e.key = some l := fun e he => by
          obtain ⟨y, hy, rfl⟩ := List.mem_map.1 he
          exact net_key _ _ (hkeys.1 y hy).1 (hkeys.1 y hy).2
        rw [hka] at hlk
        refine op_lookupK (id := 3) (z := .bool false) (vs := [.int .u32 ((firstN x.addr x.bits.toNat : Nat) : Int), .int .i64 x.bits, .int .i64 0]) (L := Kl.map ent) rfl Try.underlying30 (by kernel_rfl) net_law rfl rfl rfl hlk hLk ?_ ?_
        · intro hno
          have hnew : ∀ y, y ∈ K.drop (m + 1) → keyA y ≠ keyA x := fun y hy e => by
            obtain ⟨z, hz1, hz2⟩ := (hkeys.2 (keyA x)).2 ⟨y, hy, e⟩
            refine hno (ent z) (List.mem_map_of_mem hz1) ?_
            unfold ent
            rw [hz2, hka]; rfl
          have hlast : lastV (K.drop m) = putV (lastV (K.drop (m + 1))) x := by rw [hdr]; exact lastV_new hxo hrest hnew
          have hk2 : ∀ c, keysOk (Kl ++ [(keyA x, c)]) (K.drop m) := fun c => ⟨fun y hy => by
            rcases List.mem_append.1 hy with hy | hy
            · exact hkeys.1 y hy
            · rw [List.mem_singleton.1 hy]; exact hkr, fun q => by
            rw [hdr]
            constructor
            · rintro ⟨y, hy, rfl⟩
              rcases List.mem_append.1 hy with hy | hy
              · obtain ⟨z, h1, h2⟩ := (hkeys.2 y.1).1 ⟨y, hy, rfl⟩
                exact ⟨z, List.mem_cons_of_mem _ h1, h2⟩
              · rw [List.mem_singleton.1 hy]; exact ⟨x, List.mem_cons_self, rfl⟩
            · rintro ⟨z, hz, rfl⟩
              rcases List.mem_cons.1 hz with rfl | hz
              · exact ⟨_, List.mem_append_right _ (List.mem_singleton.2 rfl), rfl⟩
              · obtain ⟨y, h1, h2⟩ := (hkeys.2 (keyA z)).2 ⟨z, hz, rfl⟩
                exact ⟨y, List.mem_append_left _ h1, h2⟩⟩
          conv => whnf
          refine CallVC.ar (i := 1) hput rfl rfl ?_
          intro d M S4 hq
          rw [show decide (0 ≤ x.bits ∧ x.bits ≤ 32) = validN x from rfl, hv] at hq
          obtain ⟨N4, len4, ht4, rfl, rfl⟩ := hq
          have hpv : setV (lastV (K.drop (m + 1))) (way x.addr x.bits.toNat) (some x.num) = lastV (K.drop m) := by
            rw [hlast]
            unfold putV
            rw [hv]
            rfl
          rw [hpv] at ht4 ⊢
          conv => whnf
          refine op_addK (id := 3) (vs := [.int .u32 ((firstN x.addr x.bits.toNat : Nat) : Int), .int .i64 x.bits, .int .i64 0]) (L := Kl.map ent) rfl Try.underlying30 net_law rfl rfl rfl rfl hlk hLk hno ?_
          rw [show (Kl.map ent ++ [({ key := .agg [.int .u32 ((firstN x.addr x.bits.toNat : Nat) : Int), .int .i64 x.bits, .int .i64 0].toArray, val := .bool true, born := cc } : MapEntry)]) = (Kl ++ [(keyA x, cc)]).map ent by rw [List.map_append, hka]; rfl]
          conv => whnf
          rw [em]
          refine ⟨(m, S4, N4, len4, Kl ++ [(keyA x, cc)], cc + 1), [], [], ?_, ⟨by omega, ht4, hk2 cc⟩, Nat.lt_succ_self m⟩
          dsimp only
          skip
          repeat' (first | exact trivial | exact .inl (DLe.refl _) | exact .inl (DLe.nil _ _) | (refine .inr ⟨rfl, _, ?_, rfl⟩; rfl) | exact rfl | exact .inl rfl | exact .inr ⟨rfl, rfl, rfl, rfl⟩ | exact Nat.zero_le _ | constructor)
        · intro e he hek
          have hval : e.val = .bool true := by
            obtain ⟨y, hy, rfl⟩ := List.mem_map.1 he
            rfl
          have hold : ∃ y, y ∈ K.drop (m + 1) ∧ keyA y = keyA x := by
            obtain ⟨y, hy, rfl⟩ := List.mem_map.1 he
            refine (hkeys.2 (keyA x)).1 ⟨y, hy, ?_⟩
            rw [hka]
            exact netK_inj hek
          have hlast : lastV (K.drop m) = lastV (K.drop (m + 1)) := by rw [hdr]; exact lastV_met hxo hrest hold
          have hk2 : keysOk Kl (K.drop m) := ⟨hkeys.1, fun q => by
            rw [hdr]
            refine (hkeys.2 q).trans ⟨fun ⟨z, h1, h2⟩ => ⟨z, List.mem_cons_of_mem _ h1, h2⟩, fun ⟨z, h1, h2⟩ => ?_⟩
            rcases List.mem_cons.1 h1 with rfl | h1
            · obtain ⟨y, h3, h4⟩ := hold
              exact ⟨y, h3, h4.trans h2⟩
            · exact ⟨z, h1, h2⟩⟩
          rw [hval]
          conv => whnf
          rw [em]
          refine ⟨(m, S3, N3, len3, Kl, cc), [], [], ?_, ⟨by omega, by rw [hlast]; exact ht3, hk2⟩, Nat.lt_succ_self m⟩
          dsimp only
          rw [hlast]
          repeat' (first | exact trivial | exact .inl (DLe.refl _) | exact .inl (DLe.nil _ _) | (refine .inr ⟨rfl, _, ?_, rfl⟩; rfl) | exact rfl | exact .inl rfl | exact .inr ⟨rfl, rfl, rfl, rfl⟩ | exact Nat.zero_le _ | constructor)
    · have r' : j = 0 := by have := of_decide_eq_false r; omega
      subst r'
      rw [List.drop_zero] at ht3 ⊢
      clear hkeys
      conv => whnf
      refine ⟨Nat × (Nat → Prop) × (List Nat → Option Nat) × Int, fun x => ⟨[(15, intD x.1), (6, .v (.pointer (some ⟨gu, 0, none⟩))), (5, .v (.pointer (some ⟨gt, 0, none⟩))), (1, rowsL extra)],
        [(0, arL S (triA N (lastV K) gt len)), (1, arL x.2.1 (triA x.2.2.1 (lastV K) gu x.2.2.2))], 2, ([], 0)⟩,
        fun x => x.1 ≤ 20 ∧ x.1 ≤ extra.length ∧ TriOk x.2.2.1 (lastV K) gu, fun x => 20 - x.1, ⟨(0, S3, N3, len3), [], [], ?_, ⟨Nat.zero_le _, Nat.zero_le _, ht3⟩⟩, ?_⟩
      · repeat' (first | exact trivial | exact .inl (DLe.refl _) | exact .inl (DLe.nil _ _) | (refine .inr ⟨rfl, _, ?_, rfl⟩; rfl) | exact rfl | exact .inl rfl | exact .inr ⟨rfl, rfl, rfl, rfl⟩ | exact Nat.zero_le _ | constructor)
      clear ht3 len3 S3 N3
      rintro ⟨i, S3, N3, len3⟩ ⟨hi1, hi2, ht3⟩
      dsimp only at hi1 hi2 ht3 ⊢
      have ei := wrapN (n := i) (by omega)
      conv => whnf
      refine Fork.intro (fun c1 => ?_) (fun c1 => ?_)
      · have c1' : i < extra.length := by have := of_decide_eq_true c1; omega
        conv => whnf
        refine Fork.intro (fun c2 => ?_) (fun c2 => ?_)
        · have c2' : i < 20 := by have := of_decide_eq_true c2; omega
          obtain ⟨x, hx⟩ : ∃ x, extra[i]? = some x := ⟨_, List.getElem?_eq_getElem c1'⟩
          have hxo := he x (List.mem_of_getElem? hx)
          have hput := put_ar (len := len3) ht3 x hxo
          conv => whnf
          (refine ⟨rfl, ⟨by omega, by omega⟩, fun y hy => ?_⟩; obtain rfl : x = y := Option.some.inj (hx.symm.trans hy); conv => whnf)
          refine CallVC.ar (i := 1) hput rfl rfl ?_
          intro d M S4 hq
          cases hv : decide (0 ≤ x.bits ∧ x.bits ≤ 32) with
          | false =>
            rw [hv] at hq
            obtain ⟨rfl, rfl⟩ := hq
            conv => whnf
            (refine CallVC.pure (hlv) rfl ?_; rintro _ rfl; conv => whnf)
          | true =>
            rw [hv] at hq
            obtain ⟨N4, len4, ht4, rfl, rfl⟩ := hq
            cases hV : lastV K (way x.addr x.bits.toNat) with
            | some v =>
              conv => whnf
              (refine CallVC.pure (hlv) rfl ?_; rintro _ rfl; conv => whnf)
            | none =>
              have hdrop := drop_ar (len := len4) ht4 x.addr x.bits hxo
              rw [hv, setV_same] at hdrop
              conv => whnf
              refine ⟨{b : (Nat → Prop) × (List Nat → Option Nat) × Int // TriOk b.2.1 (lastV K) gu}, fun b => ⟨[(15, intD i), (6, .v (.pointer (some ⟨gu, 0, none⟩))), (5, .v (.pointer (some ⟨gt, 0, none⟩))), (1, rowsL extra)],
                [(0, arL S (triA N (lastV K) gt len)), (1, arL b.val.1 (triA b.val.2.1 (lastV K) gu b.val.2.2))], 2, ([], 0)⟩, ?_, fun b => ?_⟩
              · conv => whnf
                (refine ⟨rfl, ⟨by omega, by omega⟩, fun y hy => ?_⟩; obtain rfl : x = y := Option.some.inj (hx.symm.trans hy); conv => whnf)
                (refine ⟨rfl, ⟨by omega, by omega⟩, fun y hy => ?_⟩; obtain rfl : x = y := Option.some.inj (hx.symm.trans hy); conv => whnf)
                refine ⟨?_, ?_, trivial⟩
                · conv => whnf
                  refine ⟨?_, trivial⟩
                  conv => whnf
                  refine ⟨?_, trivial⟩
                  conv => whnf
                  refine CallVC.ar (i := 1) hdrop rfl rfl ?_
                  rintro _ _ S5 ⟨N5, len5, ht5, rfl, rfl⟩
                  rw [drop_put hV] at ht5 ⊢
                  conv => whnf
                  refine ⟨⟨(S5, N5, len5), ht5⟩, [], [], ?_⟩
                  repeat' (first | exact trivial | exact .inl (DLe.refl _) | exact .inl (DLe.nil _ _) | (refine .inr ⟨rfl, _, ?_, rfl⟩; rfl) | exact rfl | exact .inl rfl | exact .inr ⟨rfl, rfl, rfl, rfl⟩ | exact Nat.zero_le _ | constructor)
                · conv => whnf
                  refine ⟨?_, trivial⟩
                  conv => whnf
                  refine ⟨?_, trivial⟩
                  conv => whnf
                  refine CallVC.ar (i := 1) hdrop rfl rfl ?_
                  rintro _ _ S5 ⟨N5, len5, ht5, rfl, rfl⟩
                  rw [drop_put hV] at ht5 ⊢
                  conv => whnf
                  refine ⟨⟨(S5, N5, len5), ht5⟩, [], [], ?_⟩
                  repeat' (first | exact trivial | exact .inl (DLe.refl _) | exact .inl (DLe.nil _ _) | (refine .inr ⟨rfl, _, ?_, rfl⟩; rfl) | exact rfl | exact .inl rfl | exact .inr ⟨rfl, rfl, rfl, rfl⟩ | exact Nat.zero_le _ | constructor)
              · obtain ⟨⟨S5, N5, len5⟩, ht5⟩ := b
                dsimp only
                conv => whnf
                rw [ei]
                refine ⟨(i + 1, S5, N5, len5), [], [], ?_, ⟨c2', c1', ht5⟩, by show 20 - (i + 1) < 20 - i; omega⟩
                repeat' (first | exact trivial | exact .inl (DLe.refl _) | exact .inl (DLe.nil _ _) | (refine .inr ⟨rfl, _, ?_, rfl⟩; rfl) | exact rfl | exact .inl rfl | exact .inr ⟨rfl, rfl, rfl, rfl⟩ | exact Nat.zero_le _ | constructor)
        · have ha0 := all_ar (len := len) ht
          have ha1 := all_ar (len := len3) ht3
          have hgl := gl_len (lastV K) 32 [] 0
          generalize gl (lastV K) 32 [] 0 = G at *
          replace hgl : G.length + 1 ≤ 8589934592 := hgl
          conv => whnf
          refine CallVC.ar (i := 0) ha0 rfl rfl ?_
          rintro _ _ S6 ⟨rfl, rfl⟩
          conv => whnf
          refine CallVC.ar (i := 1) ha1 rfl rfl ?_
          rintro _ _ S7 ⟨rfl, rfl⟩
          conv => whnf
          rw [show decide ((G.length : Int) = (G.length : Int)) = true from decide_eq_true rfl]
          conv => whnf
          refine ⟨Nat, fun i => ⟨[(18, intD i), (17, rowsL G), (16, rowsL G)], [], 0, ([], 0)⟩, fun i => i ≤ G.length, fun i => G.length - i, ⟨0, [], [], ?_, Nat.zero_le _⟩, ?_⟩
          · repeat' (first | exact trivial | exact .inl (DLe.refl _) | exact .inl (DLe.nil _ _) | (refine .inr ⟨rfl, _, ?_, rfl⟩; rfl) | exact rfl | exact .inl rfl | exact .inr ⟨rfl, rfl, rfl, rfl⟩ | exact Nat.zero_le _ | constructor)
          intro i hi
          replace hi : i ≤ G.length := hi
          have ei : IntKind.i64.wrap ((i : Int) + 1) = ((i + 1 : Nat) : Int) := by rw [IntWalk.i64_in _ (by omega)]; omega
          conv => whnf
          refine Fork.intro (fun d1 => ?_) (fun d1 => ?_)
          · have d1' : i < G.length := by have := of_decide_eq_true d1; omega
            obtain ⟨x, hx⟩ : ∃ x, G[i]? = some x := ⟨_, List.getElem?_eq_getElem d1'⟩
            conv => whnf
            refine ⟨rfl, ⟨by omega, by omega⟩, fun y hy => ?_⟩
            obtain rfl : x = y := Option.some.inj (hx.symm.trans hy)
            conv => whnf
            refine ⟨rfl, ⟨by omega, by omega⟩, fun y hy => ?_⟩
            obtain rfl : x = y := Option.some.inj (hx.symm.trans hy)
            conv => whnf
            refine ⟨by kernel_rfl, rfl, ?_⟩
            conv => whnf
            rw [show eqD [u32D x.addr, intD x.bits, intD x.num] [u32D x.addr, intD x.bits, intD x.num] = true by simp [eqD]]
            conv => whnf
            rw [ei]
            refine ⟨i + 1, [], [], ?_, by show i + 1 ≤ G.length; omega, by show G.length - (i + 1) < G.length - i; omega⟩
            repeat' (first | exact trivial | exact .inl (DLe.refl _) | exact .inl (DLe.nil _ _) | (refine .inr ⟨rfl, _, ?_, rfl⟩; rfl) | exact rfl | exact .inl rfl | exact .inr ⟨rfl, rfl, rfl, rfl⟩ | exact Nat.zero_le _ | constructor)
          · conv => whnf
            (refine CallVC.pure (hlv) rfl ?_; rintro _ rfl; conv => whnf)
      · have ha0 := all_ar (len := len) ht
        have ha1 := all_ar (len := len3) ht3
        have hgl := gl_len (lastV K) 32 [] 0
        generalize gl (lastV K) 32 [] 0 = G at *
        replace hgl : G.length + 1 ≤ 8589934592 := hgl
        conv => whnf
        refine CallVC.ar (i := 0) ha0 rfl rfl ?_
        rintro _ _ S6 ⟨rfl, rfl⟩
        conv => whnf
        refine CallVC.ar (i := 1) ha1 rfl rfl ?_
        rintro _ _ S7 ⟨rfl, rfl⟩
        conv => whnf
        rw [show decide ((G.length : Int) = (G.length : Int)) = true from decide_eq_true rfl]
        conv => whnf
        refine ⟨Nat, fun i => ⟨[(18, intD i), (17, rowsL G), (16, rowsL G)], [], 0, ([], 0)⟩, fun i => i ≤ G.length, fun i => G.length - i, ⟨0, [], [], ?_, Nat.zero_le _⟩, ?_⟩
        · repeat' (first | exact trivial | exact .inl (DLe.refl _) | exact .inl (DLe.nil _ _) | (refine .inr ⟨rfl, _, ?_, rfl⟩; rfl) | exact rfl | exact .inl rfl | exact .inr ⟨rfl, rfl, rfl, rfl⟩ | exact Nat.zero_le _ | constructor)
        intro i hi
        replace hi : i ≤ G.length := hi
        have ei : IntKind.i64.wrap ((i : Int) + 1) = ((i + 1 : Nat) : Int) := by rw [IntWalk.i64_in _ (by omega)]; omega
        conv => whnf
        refine Fork.intro (fun d1 => ?_) (fun d1 => ?_)
        · have d1' : i < G.length := by have := of_decide_eq_true d1; omega
          obtain ⟨x, hx⟩ : ∃ x, G[i]? = some x := ⟨_, List.getElem?_eq_getElem d1'⟩
          conv => whnf
          refine ⟨rfl, ⟨by omega, by omega⟩, fun y hy => ?_⟩
          obtain rfl : x = y := Option.some.inj (hx.symm.trans hy)
          conv => whnf
          refine ⟨rfl, ⟨by omega, by omega⟩, fun y hy => ?_⟩
          obtain rfl : x = y := Option.some.inj (hx.symm.trans hy)
          conv => whnf
          refine ⟨by kernel_rfl, rfl, ?_⟩
          conv => whnf
          rw [show eqD [u32D x.addr, intD x.bits, intD x.num] [u32D x.addr, intD x.bits, intD x.num] = true by simp [eqD]]
          conv => whnf
          rw [ei]
          refine ⟨i + 1, [], [], ?_, by show i + 1 ≤ G.length; omega, by show G.length - (i + 1) < G.length - i; omega⟩
          repeat' (first | exact trivial | exact .inl (DLe.refl _) | exact .inl (DLe.nil _ _) | (refine .inr ⟨rfl, _, ?_, rfl⟩; rfl) | exact rfl | exact .inl rfl | exact .inr ⟨rfl, rfl, rfl, rfl⟩ | exact Nat.zero_le _ | constructor)
        · conv => whnf
          (refine CallVC.pure (hlv) rfl ?_; rintro _ rfl; conv => whnf)
end Go.Proofs.Ytihmdlkbfpipeaa.V
