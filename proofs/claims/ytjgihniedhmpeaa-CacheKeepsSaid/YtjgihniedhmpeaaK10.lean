/-
  What a cache is in memory behind a step of a tick; a tick, place by place. No condition.
  A tick goes by: the program's, by value. Conditions: the cache stands right, not too much is known.
-/
import Derived.Test.YtjgihniedhmpeaaK9
namespace Go.Proofs.Ytjgihniedhmpeaa.V
open Go.RowKit

theorem upd_updc (M : Ar) (g : Nat) (x y : Option It) : (M.upd g x).upd g y = M.upd g y := by
  funext k
  simp only [upd_if]
  by_cases h : k = g <;> simp [h]
section
variable {P : Program} {s : St} {K : D → St → Prop}
theorem op_drop {gg : Bool} {o : Oper} {i : Nat} {S : Nat → Prop} {M M' : Ar} (hid : lget s.H i = some (arL S M)) (hsub : ∀ k x, M' k = some x → M k = some x) (h : ∀ S', OpVC P gg o ⟨s.F, (i, arL S' M') :: s.H, s.nx, s.G⟩ K) : OpVC P gg o s K := by
  intro E σ τ a w hs next Q hn
  exact h _ E σ τ a w (drop_state hs hid hsub).1 next Q hn
end
def CDat.at_ (d : CDat) (n : Int) : CDat := { d with now := n }
theorem at_pr {d : CDat} (h : COk d) (n : Int) : COk (d.at_ n) ∧ (cacheM d).upd d.cg (some (.cells 71 (hdrC (d.at_ n)))) = cacheM (d.at_ n) := by
  refine ⟨⟨h.nodup, h.rows, h.keys, h.born, h.bclk⟩, ?_⟩
  funext k
  show _ = lget (items (d.at_ n)) k
  rw [upd_if]
  show _ = lget ((d.cg, _) :: (d.mg, _) :: d.L.flatMap prItems) k
  have : cacheM d k = lget ((d.cg, It.cells 71 (hdrC d)) :: (d.mg, .ob (mapO d)) :: d.L.flatMap prItems) k := rfl
  rw [this]
  simp only [lget_cons]
  by_cases e : k = d.cg
  · simp [e]
  · simp [e]; rfl
theorem at_stand {d : CDat} {T : List Pl} (h : CStand d T) (n : Int) : CStand (d.at_ n) T := ⟨(at_pr h.ok n).1, h.perm, h.sort⟩
theorem put_same {d : CDat} (h : COk d) {A B : List Pr} {p q : Pr} (hL : d.L = A ++ p :: B) (hg : q.g = p.g) (hr : q.row = p.row) (hre : q.rest = p.rest) (hw : q.pl.ws = p.pl.ws) (hk : q.pl.key = p.pl.key) (hb : q.born = p.born) :
    COk (d.put A B q) ∧ (cacheM d).upd p.g (some (.cells 75 (prC q))) = cacheM (d.put A B q) := by
  have hmem : p ∈ d.L := by rw [hL]; simp
  obtain ⟨n0, n1, n2, n3⟩ := cache_ne h hmem
  have he : entP q = entP p := by
    unfold entP
    have : (q.pl.nic, q.pl.next) = (p.pl.nic, p.pl.next) := hk
    injection this with e1 e2
    rw [hg, hb, e1, e2]
  have hmap := put_map hL he
  have hwq : waitsL (d.put A B q).L = waitsL d.L := by
    have h2 : waitsL d.L = waitsT ((A ++ p :: B).map Pr.pl) := by unfold waitsL; rw [hL]
    have h3 := waitsT_set (A := A.map Pr.pl) (B := B.map Pr.pl) (x := p.pl) (y := q.pl)
    have h4 : waitsL (d.put A B q).L = waitsT ((A ++ q :: B).map Pr.pl) := rfl
    rw [h4, h2, List.map_append, List.map_cons, List.map_append, List.map_cons]
    rw [hw] at h3
    omega
  have hhd : hdrC (d.put A B q) = hdrC d := by
    unfold hdrC
    rw [hwq]
    rfl
  have hop := cache_open h hL
  have hnd := (nodup_perm (items_open hL)).1 h.nodup
  have hrow : prRow q = prRow p := by unfold prRow; rw [hr, hre, hw]
  have hnew : (items (d.put A B q)).Perm (openI (d.put A B q) (prItems q) ((A ++ B).flatMap prItems)) := items_open rfl
  have hkeys : (openI (d.put A B q) (prItems q) ((A ++ B).flatMap prItems)).map (·.1) = (openI d (prItems p) ((A ++ B).flatMap prItems)).map (·.1) := by
    unfold openI prItems
    rw [hrow, hg]
    rfl
  have hpok : PrOk q := by
    obtain ⟨a1, a2, a3⟩ := h.rows p hmem
    exact ⟨by rw [hr, hw]; exact a1, by rw [hr, hre, hw]; exact a2, by rw [hk]; exact a3⟩
  refine ⟨⟨(nodup_perm hnew).2 (by rw [hkeys]; exact hnd), fun x hx => ?_, put_keys h hL hk, (put_born h hL hb).1, (put_born h hL hb).2⟩, cache_is hnew (by rw [hkeys]; exact hnd) fun k => ?_⟩
  · rcases List.mem_append.1 hx with hx | hx
    · exact h.rows x (by rw [hL]; simp [hx])
    · rcases List.mem_cons.1 hx with rfl | hx
      · exact hpok
      · exact h.rows x (by rw [hL]; simp [hx])
  · rw [upd_if, hop]
    unfold openI prItems
    rw [hrow, hhd, hmap, hg]
    simp only [List.cons_append, lget_cons]
    show (if k = p.g then _ else if k = d.cg then _ else if k = d.mg then _ else _) = if k = d.cg then _ else if k = d.mg then _ else _
    by_cases e1 : k = d.cg
    · simp [e1, n1]
    by_cases e2 : k = d.mg
    · simp [e2, n2, Ne.symm n0]
    by_cases e3 : k = p.g
    · simp [e3, Ne.symm n1, Ne.symm n2]
    · simp [e1, e2, e3]
def CDat.del (d : CDat) (A B : List Pr) : CDat := { d with L := A ++ B }
theorem del_pr {d : CDat} (h : COk d) {A B : List Pr} {p : Pr} (hL : d.L = A ++ p :: B) :
    COk (d.del A B) ∧ ∀ k x, cacheM (d.del A B) k = some x → (k = d.cg ∧ x = .cells 71 (hdrC (d.del A B))) ∨ (k ≠ d.cg ∧ k = d.mg ∧ x = .ob (mapO (d.del A B))) ∨ (k ≠ d.cg ∧ k ≠ d.mg ∧ cacheM d k = some x) := by
  have hsl : (A ++ B).Sublist d.L := by rw [hL]; exact List.Sublist.append_left (List.sublist_cons_self _ _) _
  have hop := cache_open h hL
  have hnd := (nodup_perm (items_open hL)).1 h.nodup
  have hit : items (d.del A B) = (d.cg, .cells 71 (hdrC (d.del A B))) :: (d.mg, .ob (mapO (d.del A B))) :: (A ++ B).flatMap prItems := rfl
  unfold openI at hop hnd
  generalize (A ++ B).flatMap prItems = R at *
  have hnd2 : ((items (d.del A B)).map (·.1)).Nodup := by
    rw [hit]
    simp only [List.map_cons, List.map_append, List.nodup_cons, List.mem_cons, List.mem_append, not_or] at hnd ⊢
    exact ⟨⟨hnd.1.1, hnd.1.2.2⟩, hnd.2.1.2, (List.nodup_append.1 hnd.2.2).2.1⟩
  refine ⟨⟨hnd2, fun x hx => h.rows x (hsl.subset hx), h.keys.sublist (hsl.map _), h.born.sublist (hsl.map _), fun x hx => h.bclk x (hsl.subset hx)⟩, fun k x hx => ?_⟩
  have hx : lget (items (d.del A B)) k = some x := hx
  rw [hit] at hx
  simp only [lget_cons] at hx
  by_cases e1 : k = d.cg
  · rw [if_pos e1] at hx
    injection hx with hx
    exact .inl ⟨e1, hx.symm⟩
  rw [if_neg e1] at hx
  by_cases e2 : k = d.mg
  · rw [if_pos e2] at hx
    injection hx with hx
    exact .inr (.inl ⟨e1, e2, hx.symm⟩)
  rw [if_neg e2] at hx
  refine .inr (.inr ⟨e1, e2, ?_⟩)
  rw [hop]
  exact lget_mem hnd (List.mem_cons_of_mem _ (List.mem_cons_of_mem _ (List.mem_append_right _ (lget_in hx))))
theorem map_del {d : CDat} {A B : List Pr} {p : Pr} (hL : d.L = A ++ p :: B) : mapO (d.del A B) = .map ((d.L.map entP).eraseIdx A.length).toArray d.clk := by
  unfold mapO
  show Obj.map ((A ++ B).map entP).toArray d.clk = _
  rw [hL, List.map_append, List.map_append, List.map_cons]
  have e : (A.map entP ++ entP p :: B.map entP).eraseIdx A.length = A.map entP ++ B.map entP := by
    rw [List.eraseIdx_append_of_length_le (by simp)]
    simp
  rw [e]
theorem waitsL_del {d : CDat} {A B : List Pr} {p : Pr} (hL : d.L = A ++ p :: B) : waitsL (d.del A B).L + p.pl.ws.length = waitsL d.L := by
  unfold waitsL
  show waitsT ((A ++ B).map Pr.pl) + _ = _
  rw [hL, List.map_append, List.map_append, List.map_cons, waitsT_append, waitsT_append, waitsT]
  omega

/-! ### A tick, place by place -/
def stageT (c : Nat → Int) (now : Int) (T : List Pl) (i : Nat) : List Pl := tickT c now (T.take i) ++ T.drop i
theorem stage_end (c : Nat → Int) (now : Int) (T : List Pl) : stageT c now T T.length = tickT c now T := by
  unfold stageT
  rw [List.take_length, List.drop_length, List.append_nil]
theorem stage_at {c : Nat → Int} {now : Int} {T : List Pl} {i : Nat} {x : Pl} (h : T[i]? = some x) : stageT c now T i = tickT c now (T.take i) ++ x :: T.drop (i + 1) ∧ stageT c now T (i + 1) = tickT c now (T.take i) ++ ((tickX c now x).toList ++ T.drop (i + 1)) := by
  obtain ⟨hl, rfl⟩ := List.getElem?_eq_some_iff.1 h
  unfold stageT tickT
  refine ⟨by rw [List.drop_eq_getElem_cons hl], ?_⟩
  rw [List.take_add_one, h, Option.toList_some, List.filterMap_append, List.append_assoc]
  congr 2
theorem asks_snoc {c : Nat → Int} {now : Int} {T : List Pl} {i : Nat} {x : Pl} (h : T[i]? = some x) : asksT c now (T.take (i + 1)) = asksT c now (T.take i) ++ match askX c now x with
    | true => [x.key]
    | false => [] := by
  unfold asksT
  rw [List.take_add_one, h, Option.toList_some, List.filter_append, List.map_append]
  congr 1
  cases hq : askX c now x <;> simp [hq]
theorem lostT_append (c : Nat → Int) (now : Int) : ∀ A B : List Pl, lostT c now (A ++ B) = lostT c now A + lostT c now B
  | [], B => by simp [lostT]
  | x :: r, B => by rw [List.cons_append, lostT, lostT, lostT_append c now r B]; omega
theorem lost_snoc {c : Nat → Int} {now : Int} {T : List Pl} {i : Nat} {x : Pl} (h : T[i]? = some x) : lostT c now (T.take (i + 1)) = lostT c now (T.take i) + lostX c now x := by
  rw [List.take_add_one, h, Option.toList_some, lostT_append]
  simp [lostT]
theorem lostT_le (c : Nat → Int) (now : Int) : ∀ T : List Pl, lostT c now T ≤ waitsT T
  | [] => Nat.le_refl _
  | x :: r => by
    rw [lostT, waitsT]
    have := lostT_le c now r
    have : lostX c now x ≤ x.ws.length := by unfold lostX; cases tickX c now x <;> simp
    omega
theorem waits_take (T : List Pl) (i : Nat) : waitsT (T.take i) ≤ waitsT T := by
  conv => rhs; rw [← List.take_append_drop i T]
  rw [waitsT_append]; omega
theorem del_stand {d : CDat} {P R : List Pl} {A B : List Pr} {p : Pr} (hL : d.L = A ++ p :: B) (h : CStand d (P ++ p.pl :: R)) (hok : COk (d.del A B)) : CStand (d.del A B) (P ++ R) := by
  refine ⟨hok, ?_, ?_⟩
  · show ((A ++ B).map Pr.pl).Perm _
    have h1 := h.perm
    rw [hL, List.map_append, List.map_cons] at h1
    rw [List.map_append]
    have h2 := (List.perm_middle.symm.trans h1).trans List.perm_middle
    exact (List.perm_cons p.pl).1 h2
  · have hs : (P ++ R).Sublist (P ++ p.pl :: R) := List.Sublist.append_left (List.sublist_cons_self _ _) _
    exact ⟨fun x hx => h.sort.1 x (hs.subset hx), h.sort.2.sublist hs⟩
end Go.Proofs.Ytjgihniedhmpeaa.V
namespace Go.Proofs.Ytjgihniedhmpeaa.V
open Go.RowKit
attribute [local irreducible] Fn FnN OpVC ArC FnR ArL

def TOk (T : List Pl) : Prop := ∀ x ∈ T, (x.known = false → x.ws ≠ [] ∧ 0 ≤ x.tries) ∧ (x.known = true → x.ws = []) ∧ (0 ≤ x.tries)
def cfgOk (c : Nat → Int) : Prop := ∀ i, 23 ≤ i → i < 40 → -9223372036854775808 ≤ c i ∧ c i ≤ 9223372036854775807
theorem waits_tick (c : Nat → Int) (now : Int) : ∀ T : List Pl, waitsT (tickT c now T) ≤ waitsT T
  | [] => Nat.le_refl _
  | x :: r => by
    have ih := waits_tick c now r
    unfold tickT at ih ⊢
    rw [List.filterMap_cons]
    cases hq : tickX c now x with
    | none => simp only [waitsT]; omega
    | some y =>
      have : y.ws = x.ws := by
        unfold tickX at hq
        split at hq
        · injection hq with hq; rw [← hq]
        · split at hq
          · injection hq with hq; rw [← hq]
          · cases hq
      simp only [waitsT, this]; omega
set_option maxHeartbeats 16000000 in
theorem tick_ar (d : CDat) (T : List Pl) (h : CStand d T) (hok : TOk T) (hc : cfgOk d.c) (hT : T.length ≤ 100000) (hw : waitsT T ≤ 1000000) (hn : 0 ≤ d.now ∧ d.now ≤ 1999999999) :
    ArC Try.prog 11 [ptrD d.cg] (cacheM d) fun r M => r = .tup [plsR (asksT d.c (d.now + 1) T), intD (lostT d.c (d.now + 1) T)] ∧ ∃ d', M = cacheM d' ∧ d'.cg = d.cg ∧ d'.c = d.c ∧ d'.now = d.now + 1 ∧ CStand d' (tickT d.c (d.now + 1) T) := by
  refine arOf [] Try.func11 rfl (by kernel_rfl) (Nat.le_of_ble_eq_true rfl) fun S => ?_
  have hh := cache_hdr (d := d)
  obtain ⟨hok1, hM1⟩ := at_pr h.ok (d.now + 1)
  have h1 := at_stand h (d.now + 1)
  have en : IntKind.i64.wrap (d.now + 1) = d.now + 1 := IntWalk.i64_in _ (by omega)
  have hord := order_ar (d.at_ (d.now + 1)) T h1 hT
  conv => whnf
  (refine pv_isNil (b := false) ttH rfl rfl rfl (.inl ⟨rfl, rfl⟩) ?_; conv => whnf)
  (refine pv_nil rfl ?_; (conv => whnf); refine pv_field ttH rfl rfl rfl ?_; conv => whnf)
  (refine pv_loadA (i := 0) ttH rfl rfl rfl (hh) rfl ?_; conv => whnf)
  (refine pv_nil rfl ?_; (conv => whnf); refine pv_field ttH rfl rfl rfl ?_; conv => whnf)
  rw [en]
  refine op_storeA (i := 0) (l' := hdrC (d.at_ (d.now + 1))) ttH rfl rfl rfl rfl hh rfl rfl rfl rfl rfl ?_
  rw [hM1]
  conv => whnf
  refine CallVC.ar (i := 0) hord rfl rfl ?_
  rintro _ _ S1 ⟨rfl, rfl⟩
  obtain ⟨d0, hd0⟩ : ∃ d0, d0 = d.at_ (d.now + 1) := ⟨_, rfl⟩
  have hcg0 : d0.cg = d.cg := by rw [hd0]; rfl
  have hc0 : d0.c = d.c := by rw [hd0]; rfl
  have hn0 : d0.now = d.now + 1 := by rw [hd0]; rfl
  rw [← hd0] at h1 ⊢
  conv => whnf
  refine ⟨Nat × CDat × (Nat → Prop), fun x => ⟨[(23, intD x.1), (22, intD (T.map Pl.key).length), (21, plsR (T.map Pl.key)), (5, intD (lostT d.c (d.now + 1) (T.take x.1))), (4, .grow 1), (0, ptrD d.cg)], [(0, arL x.2.2 (cacheM x.2.1)), (1, .grow (Int × Int) 39 2 plC (asksT d.c (d.now + 1) (T.take x.1)))], 2, ([], 0)⟩,
    fun x => x.1 ≤ T.length ∧ x.2.1.cg = d.cg ∧ x.2.1.c = d.c ∧ x.2.1.now = d.now + 1 ∧ CStand x.2.1 (stageT d.c (d.now + 1) T x.1), fun x => T.length - x.1, ⟨(0, d0, S1), [], [1], ?_, ⟨Nat.zero_le _, hcg0, hc0, hn0, h1⟩⟩, ?_⟩
  · repeat' (first | exact trivial | exact .inl (DLe.refl _) | exact .inl (DLe.nil _ _) | (refine .inr ⟨rfl, _, ?_, rfl⟩; rfl) | exact rfl | exact .inl rfl | exact .inr ⟨rfl, rfl, rfl, rfl⟩ | exact Nat.zero_le _ | constructor)
  clear h1 hd0 hcg0 hc0 hn0 d0 hord hM1 hok1 hh
  rintro ⟨k, e, S2⟩ ⟨hk, hcg, hcc, hnw, hst⟩
  dsimp only at hk hcg hcc hnw hst ⊢
  have hml : (T.map Pl.key).length = T.length := List.length_map _
  rw [hml]
  have e0 : IntKind.i64.wrap ((k : Int) + 1) = ((k + 1 : Nat) : Int) := by rw [IntWalk.i64_in _ (by omega)]; omega
  rw [← hcg]
  conv => whnf
  refine Fork.intro (fun q => ?_) (fun q => ?_)
  · have q' : k < T.length := by have := of_decide_eq_true q; omega
    obtain ⟨x, hx⟩ : ∃ x, T[k]? = some x := ⟨_, List.getElem?_eq_getElem q'⟩
    have hxm : x ∈ T := List.mem_of_getElem? hx
    obtain ⟨s1, s2⟩ := stage_at (c := d.c) (now := d.now + 1) hx
    have hstx : x ∈ stageT d.c (d.now + 1) T k := by rw [s1]; simp
    obtain ⟨p, hp, hpx⟩ : ∃ p ∈ e.L, p.pl = x := by
      obtain ⟨p, hp, hpx⟩ := List.mem_map.1 (hst.perm.mem_iff.2 hstx)
      exact ⟨p, hp, hpx⟩
    obtain ⟨A, B, hL⟩ := mem_split' hp
    have hpr := cache_pr hst.ok hp
    have hhd := cache_hdr (d := e)
    have hm := cache_map hst.ok
    have hLk := ent_keys hst.ok
    obtain ⟨a1, a2, a3⟩ := hst.ok.rows p hp
    obtain ⟨lk, hlk⟩ := place_key p.pl.key a3
    conv => whnf
    refine ⟨rfl, ⟨Int.natCast_nonneg _, Int.ofNat_lt.2 (by rw [hml]; exact q')⟩, fun y hy => ?_⟩
    obtain rfl : x.key = y := by
      rw [Int.toNat_natCast, List.getElem?_map, hx] at hy
      exact Option.some.inj hy
    rw [← hpx]
    conv => whnf
    (refine pv_nil rfl ?_; (conv => whnf); refine pv_field ttH rfl rfl rfl ?_; conv => whnf)
    (refine pv_loadA (i := 0) ttH rfl rfl rfl (hhd) rfl ?_; conv => whnf)
    refine op_lookupA (i := 0) (z := .pointer none) (L := e.L.map entP) (vs := [.int .i64 p.pl.key.1, .int .u32 p.pl.key.2]) rfl Try.underlying69 (by kernel_rfl) place_law rfl rfl rfl hm hlk hLk (fun hno => ?_) (fun en he hek => ?_)
    · exact absurd rfl (hno (entP p) (List.mem_map_of_mem hp))
    obtain ⟨j, hj⟩ := List.getElem?_of_mem he
    obtain ⟨_, rfl⟩ := keys_at hst.ok hL hj hek
    conv => whnf
    (refine pv_nil rfl ?_; (conv => whnf); refine pv_field ttH rfl rfl rfl ?_; conv => whnf)
    (refine pv_loadA (i := 0) ttH rfl rfl rfl (hpr) rfl ?_; conv => whnf)
    (refine pv_nil rfl ?_; (conv => whnf); refine pv_field ttH rfl rfl rfl ?_; conv => whnf)
    (refine pv_loadA (i := 0) ttH rfl rfl rfl (hhd) rfl ?_; conv => whnf)
    cases hdue : decide (e.now < p.pl.due) with
    | true =>
      have hdq : decide (x.due > d.now + 1) = true := by rw [← hpx, ← hnw]; exact hdue
      have hX : tickX d.c (d.now + 1) x = some x := by unfold tickX; rw [hdq]
      have hA : askX d.c (d.now + 1) x = false := by unfold askX; rw [hdq]; rfl
      have hs2 : stageT d.c (d.now + 1) T (k + 1) = stageT d.c (d.now + 1) T k := by rw [s1, s2, hX]; rfl
      have hasks : asksT d.c (d.now + 1) (T.take (k + 1)) = asksT d.c (d.now + 1) (T.take k) := by rw [asks_snoc hx, hA]; exact List.append_nil _
      have hlost : lostT d.c (d.now + 1) (T.take (k + 1)) = lostT d.c (d.now + 1) (T.take k) := by rw [lost_snoc hx]; unfold lostX; rw [hX]; rfl
      conv => whnf
      rw [e0]
      refine ⟨(k + 1, e, S2), [], [], ?_, ⟨q', rfl, hcc, hnw, by rw [hs2]; exact hst⟩, by show T.length - (k + 1) < T.length - k; omega⟩
      dsimp only
      rw [hasks, hlost]
      repeat' (first | exact trivial | exact .inl (DLe.refl _) | exact .inl (DLe.nil _ _) | (refine .inr ⟨rfl, _, ?_, rfl⟩; rfl) | exact rfl | exact .inl rfl | exact .inr ⟨rfl, rfl, rfl, rfl⟩ | exact Nat.zero_le _ | constructor)
    | false =>
      have hdq : decide (x.due > d.now + 1) = false := by rw [← hpx, ← hnw]; exact hdue
      conv => whnf
      (refine pv_nil rfl ?_; (conv => whnf); refine pv_field ttH rfl rfl rfl ?_; conv => whnf)
      refine pv_loadA (i := 0) ttH rfl rfl rfl hpr rfl ?_
      cases hkn : p.pl.known with
      | true =>
        have hkx : x.known = true := by rw [← hpx]; exact hkn
        have hX : tickX d.c (d.now + 1) x = none := by unfold tickX; rw [hdq, hkx]; rfl
        have hA : askX d.c (d.now + 1) x = false := by unfold askX; rw [hdq, hkx]; rfl
        conv => whnf
        have hlq : lostX d.c (d.now + 1) x = p.pl.ws.length := by unfold lostX; rw [hX, hpx]
        have hs2 : stageT d.c (d.now + 1) T (k + 1) = tickT d.c (d.now + 1) (T.take k) ++ T.drop (k + 1) := by rw [s2, hX]; rfl
        rw [← hpx] at s1
        have hst1 : CStand e (tickT d.c (d.now + 1) (T.take k) ++ p.pl :: T.drop (k + 1)) := by rw [← s1]; exact hst
        obtain ⟨hdok, hdsub⟩ := del_pr hst.ok hL
        have hdst := del_stand hL hst1 hdok
        rw [← hs2] at hdst
        have hwe := waitsL_del (d := e) hL
        have hws : waitsL e.L ≤ 1000000 := by
          rw [hst.waits]
          refine Nat.le_trans ?_ hw
          rw [s1]
          have h1 : waitsT (tickT d.c (d.now + 1) (T.take k)) ≤ waitsT (T.take k) := waits_tick _ _ _
          have h2 : waitsT (p.pl :: T.drop (k + 1)) = waitsT (T.drop k) := by
            rw [hpx]
            obtain ⟨hl, hxx⟩ := List.getElem?_eq_some_iff.1 hx
            rw [List.drop_eq_getElem_cons hl, hxx]
          rw [waitsT_append, h2]
          conv => rhs; rw [← List.take_append_drop k T]
          rw [waitsT_append]
          omega
        have hl1 : lostT d.c (d.now + 1) (T.take k) ≤ 1000000 := Nat.le_trans (lostT_le _ _ _) (Nat.le_trans (waits_take _ _) hw)
        have ew : IntKind.i64.wrap (((waitsL e.L : Nat) : Int) - ((p.pl.ws.length : Nat) : Int)) = ((waitsL (e.del A B).L : Nat) : Int) := by
          rw [IntWalk.i64_in _ (by omega)]; omega
        have el : IntKind.i64.wrap (((lostT d.c (d.now + 1) (T.take k) : Nat) : Int) + ((p.pl.ws.length : Nat) : Int)) = ((lostT d.c (d.now + 1) (T.take (k + 1)) : Nat) : Int) := by
          rw [lost_snoc hx, hlq, IntWalk.i64_in _ (by omega)]; omega
        have hasks : asksT d.c (d.now + 1) (T.take (k + 1)) = asksT d.c (d.now + 1) (T.take k) := by rw [asks_snoc hx, hA]; exact List.append_nil _
        (refine pv_nil rfl ?_; (conv => whnf); refine pv_field ttH rfl rfl rfl ?_; conv => whnf)
        (refine pv_loadA (i := 0) ttH rfl rfl rfl (hpr) rfl ?_; conv => whnf)
        refine pv_lenS (row := p.row) (n := p.pl.ws.length) ttH (fun e => by rw [a1 e]; rfl) rfl rfl ?_
        conv => whnf
        rw [el]
        (refine pv_nil rfl ?_; (conv => whnf); refine pv_field ttH rfl rfl rfl ?_; conv => whnf)
        (refine pv_loadA (i := 0) ttH rfl rfl rfl (hhd) rfl ?_; conv => whnf)
        (refine pv_nil rfl ?_; (conv => whnf); refine pv_field ttH rfl rfl rfl ?_; conv => whnf)
        (refine pv_loadA (i := 0) ttH rfl rfl rfl (hpr) rfl ?_; conv => whnf)
        refine pv_lenS (row := p.row) (n := p.pl.ws.length) ttH (fun e => by rw [a1 e]; rfl) rfl rfl ?_
        conv => whnf
        (refine pv_nil rfl ?_; (conv => whnf); refine pv_field ttH rfl rfl rfl ?_; conv => whnf)
        rw [ew]
        refine op_storeA (i := 0) (l' := hdrC (e.del A B)) ttH rfl rfl rfl rfl hhd rfl rfl rfl rfl rfl ?_
        have hh1 : ∀ X, (cacheM e).upd e.cg X e.cg = X := fun X => by rw [upd_if, if_pos rfl]
        conv => whnf
        (refine pv_nil rfl ?_; (conv => whnf); refine pv_field ttH rfl rfl rfl ?_; conv => whnf)
        (refine pv_loadA (i := 0) ttH rfl rfl rfl (hh1 _) rfl ?_; conv => whnf)
        have ncm : e.cg ≠ e.mg := fun e' => by rw [e', hm] at hhd; cases hhd
        refine op_drop (i := 0) (M' := (cacheM (e.del A B)).upd e.mg (some (.ob (mapO e)))) rfl (fun k' x' hx' => ?_) fun S4 => ?_
        · rw [upd_if] at hx'
          refine (upd_if _ _ _ _).trans ?_
          by_cases e1 : k' = e.mg
          · rw [if_pos e1] at hx'
            rw [if_neg (by rw [e1]; exact Ne.symm ncm), e1, hm]
            exact hx'
          · rw [if_neg e1] at hx'
            rcases hdsub k' x' hx' with ⟨f1, f2⟩ | ⟨f1, f2, f3⟩ | ⟨f1, f2, f3⟩
            · rw [if_pos f1, f2]
            · exact absurd f2 e1
            · rw [if_neg f1, f3]
        have hmd : ∀ X, (cacheM (e.del A B)).upd e.mg X e.mg = X := fun X => by rw [upd_if, if_pos rfl]
        refine op_delMapA (i := 0) (g := e.mg) (L := e.L.map entP) (vs := [.int .i64 p.pl.key.1, .int .u32 p.pl.key.2]) rfl Try.underlying69 place_law rfl rfl rfl (hmd _) hlk hLk (fun hno => ?_) (fun j2 en2 he2 hek2 => ?_)
        · exact absurd rfl (hno (entP p) (List.mem_map_of_mem hp))
        obtain ⟨rfl, rfl⟩ := keys_at hst.ok hL he2 hek2
        have hmapd := map_del (d := e) hL
        rw [upd_updc, ← hmapd]
        have hself : (cacheM (e.del A B)).upd e.mg (some (.ob (mapO (e.del A B)))) = cacheM (e.del A B) := by
          funext k'
          rw [upd_if]
          by_cases e1 : k' = e.mg
          · rw [if_pos e1, e1]
            exact (cache_map hdok).symm
          · rw [if_neg e1]
        rw [hself]
        conv => whnf
        rw [e0]
        refine ⟨(k + 1, e.del A B, S4), [], [], ?_, ⟨q', rfl, hcc, hnw, hdst⟩, by show T.length - (k + 1) < T.length - k; omega⟩
        dsimp only
        rw [hasks]
        repeat' (first | exact trivial | exact .inl (DLe.refl _) | exact .inl (DLe.nil _ _) | (refine .inr ⟨rfl, _, ?_, rfl⟩; rfl) | exact rfl | exact .inl rfl | exact .inr ⟨rfl, rfl, rfl, rfl⟩ | exact Nat.zero_le _ | constructor)
      | false =>
        have hkx : x.known = false := by rw [← hpx]; exact hkn
        conv => whnf
        (refine pv_nil rfl ?_; (conv => whnf); refine pv_field ttH rfl rfl rfl ?_; conv => whnf)
        (refine pv_loadA (i := 0) ttH rfl rfl rfl (hpr) rfl ?_; conv => whnf)
        (refine pv_nil rfl ?_; (conv => whnf); refine pv_field ttH rfl rfl rfl ?_; conv => whnf)
        (refine pv_field ttH rfl rfl rfl ?_; conv => whnf)
        (refine pv_loadA (i := 0) ttH rfl rfl rfl (hhd) rfl ?_; conv => whnf)
        rw [hcc]
        cases htr : decide (p.pl.tries < d.c 31) with
        | false =>
          have htx : decide (x.tries < d.c 31) = false := by rw [← hpx]; exact htr
          have hX : tickX d.c (d.now + 1) x = none := by unfold tickX; rw [hdq, hkx, htx]; rfl
          have hA : askX d.c (d.now + 1) x = false := by unfold askX; rw [hdq, hkx, htx]; rfl
          conv => whnf
          have hlq : lostX d.c (d.now + 1) x = p.pl.ws.length := by unfold lostX; rw [hX, hpx]
          have hs2 : stageT d.c (d.now + 1) T (k + 1) = tickT d.c (d.now + 1) (T.take k) ++ T.drop (k + 1) := by rw [s2, hX]; rfl
          rw [← hpx] at s1
          have hst1 : CStand e (tickT d.c (d.now + 1) (T.take k) ++ p.pl :: T.drop (k + 1)) := by rw [← s1]; exact hst
          obtain ⟨hdok, hdsub⟩ := del_pr hst.ok hL
          have hdst := del_stand hL hst1 hdok
          rw [← hs2] at hdst
          have hwe := waitsL_del (d := e) hL
          have hws : waitsL e.L ≤ 1000000 := by
            rw [hst.waits]
            refine Nat.le_trans ?_ hw
            rw [s1]
            have h1 : waitsT (tickT d.c (d.now + 1) (T.take k)) ≤ waitsT (T.take k) := waits_tick _ _ _
            have h2 : waitsT (p.pl :: T.drop (k + 1)) = waitsT (T.drop k) := by
              rw [hpx]
              obtain ⟨hl, hxx⟩ := List.getElem?_eq_some_iff.1 hx
              rw [List.drop_eq_getElem_cons hl, hxx]
            rw [waitsT_append, h2]
            conv => rhs; rw [← List.take_append_drop k T]
            rw [waitsT_append]
            omega
          have hl1 : lostT d.c (d.now + 1) (T.take k) ≤ 1000000 := Nat.le_trans (lostT_le _ _ _) (Nat.le_trans (waits_take _ _) hw)
          have ew : IntKind.i64.wrap (((waitsL e.L : Nat) : Int) - ((p.pl.ws.length : Nat) : Int)) = ((waitsL (e.del A B).L : Nat) : Int) := by
            rw [IntWalk.i64_in _ (by omega)]; omega
          have el : IntKind.i64.wrap (((lostT d.c (d.now + 1) (T.take k) : Nat) : Int) + ((p.pl.ws.length : Nat) : Int)) = ((lostT d.c (d.now + 1) (T.take (k + 1)) : Nat) : Int) := by
            rw [lost_snoc hx, hlq, IntWalk.i64_in _ (by omega)]; omega
          have hasks : asksT d.c (d.now + 1) (T.take (k + 1)) = asksT d.c (d.now + 1) (T.take k) := by rw [asks_snoc hx, hA]; exact List.append_nil _
          (refine pv_nil rfl ?_; (conv => whnf); refine pv_field ttH rfl rfl rfl ?_; conv => whnf)
          (refine pv_loadA (i := 0) ttH rfl rfl rfl (hpr) rfl ?_; conv => whnf)
          refine pv_lenS (row := p.row) (n := p.pl.ws.length) ttH (fun e => by rw [a1 e]; rfl) rfl rfl ?_
          conv => whnf
          rw [el]
          (refine pv_nil rfl ?_; (conv => whnf); refine pv_field ttH rfl rfl rfl ?_; conv => whnf)
          (refine pv_loadA (i := 0) ttH rfl rfl rfl (hhd) rfl ?_; conv => whnf)
          (refine pv_nil rfl ?_; (conv => whnf); refine pv_field ttH rfl rfl rfl ?_; conv => whnf)
          (refine pv_loadA (i := 0) ttH rfl rfl rfl (hpr) rfl ?_; conv => whnf)
          refine pv_lenS (row := p.row) (n := p.pl.ws.length) ttH (fun e => by rw [a1 e]; rfl) rfl rfl ?_
          conv => whnf
          (refine pv_nil rfl ?_; (conv => whnf); refine pv_field ttH rfl rfl rfl ?_; conv => whnf)
          rw [ew]
          refine op_storeA (i := 0) (l' := hdrC (e.del A B)) ttH rfl rfl rfl rfl hhd rfl rfl rfl rfl rfl ?_
          have hh1 : ∀ X, (cacheM e).upd e.cg X e.cg = X := fun X => by rw [upd_if, if_pos rfl]
          conv => whnf
          (refine pv_nil rfl ?_; (conv => whnf); refine pv_field ttH rfl rfl rfl ?_; conv => whnf)
          (refine pv_loadA (i := 0) ttH rfl rfl rfl (hh1 _) rfl ?_; conv => whnf)
          have ncm : e.cg ≠ e.mg := fun e' => by rw [e', hm] at hhd; cases hhd
          refine op_drop (i := 0) (M' := (cacheM (e.del A B)).upd e.mg (some (.ob (mapO e)))) rfl (fun k' x' hx' => ?_) fun S4 => ?_
          · rw [upd_if] at hx'
            refine (upd_if _ _ _ _).trans ?_
            by_cases e1 : k' = e.mg
            · rw [if_pos e1] at hx'
              rw [if_neg (by rw [e1]; exact Ne.symm ncm), e1, hm]
              exact hx'
            · rw [if_neg e1] at hx'
              rcases hdsub k' x' hx' with ⟨f1, f2⟩ | ⟨f1, f2, f3⟩ | ⟨f1, f2, f3⟩
              · rw [if_pos f1, f2]
              · exact absurd f2 e1
              · rw [if_neg f1, f3]
          have hmd : ∀ X, (cacheM (e.del A B)).upd e.mg X e.mg = X := fun X => by rw [upd_if, if_pos rfl]
          refine op_delMapA (i := 0) (g := e.mg) (L := e.L.map entP) (vs := [.int .i64 p.pl.key.1, .int .u32 p.pl.key.2]) rfl Try.underlying69 place_law rfl rfl rfl (hmd _) hlk hLk (fun hno => ?_) (fun j2 en2 he2 hek2 => ?_)
          · exact absurd rfl (hno (entP p) (List.mem_map_of_mem hp))
          obtain ⟨rfl, rfl⟩ := keys_at hst.ok hL he2 hek2
          have hmapd := map_del (d := e) hL
          rw [upd_updc, ← hmapd]
          have hself : (cacheM (e.del A B)).upd e.mg (some (.ob (mapO (e.del A B)))) = cacheM (e.del A B) := by
            funext k'
            rw [upd_if]
            by_cases e1 : k' = e.mg
            · rw [if_pos e1, e1]
              exact (cache_map hdok).symm
            · rw [if_neg e1]
          rw [hself]
          conv => whnf
          rw [e0]
          refine ⟨(k + 1, e.del A B, S4), [], [], ?_, ⟨q', rfl, hcc, hnw, hdst⟩, by show T.length - (k + 1) < T.length - k; omega⟩
          dsimp only
          rw [hasks]
          repeat' (first | exact trivial | exact .inl (DLe.refl _) | exact .inl (DLe.nil _ _) | (refine .inr ⟨rfl, _, ?_, rfl⟩; rfl) | exact rfl | exact .inl rfl | exact .inr ⟨rfl, rfl, rfl, rfl⟩ | exact Nat.zero_le _ | constructor)
        | true =>
          have htx : decide (x.tries < d.c 31) = true := by rw [← hpx]; exact htr
          have hX : tickX d.c (d.now + 1) x = some { x with tries := x.tries + 1, due := d.now + 1 + clampW (d.c 30) } := by unfold tickX; rw [hdq, hkx, htx]; rfl
          have hA : askX d.c (d.now + 1) x = true := by unfold askX; rw [hdq, hkx, htx]; rfl
          have htb : 0 ≤ p.pl.tries := by rw [hpx]; exact (hok x hxm).2.2
          have htc := (hc 31 (by decide) (by decide)).2
          have htl := of_decide_eq_true htr
          have et : IntKind.i64.wrap (p.pl.tries + 1) = p.pl.tries + 1 := IntWalk.i64_in _ (by omega)
          have hdue2 := due_fn e (d.c 30) (by rw [hnw]; omega)
          have hlost : lostT d.c (d.now + 1) (T.take (k + 1)) = lostT d.c (d.now + 1) (T.take k) := by rw [lost_snoc hx]; unfold lostX; rw [hX]; rfl
          have hasks : asksT d.c (d.now + 1) (T.take (k + 1)) = asksT d.c (d.now + 1) (T.take k) ++ [x.key] := by rw [asks_snoc hx, hA]
          have hal : (asksT d.c (d.now + 1) (T.take k)).length ≤ 100000 := by
            unfold asksT
            rw [List.length_map]
            exact Nat.le_trans (List.length_filter_le _ _) (Nat.le_trans (by rw [List.length_take]; omega) hT)
          obtain ⟨r, hr⟩ : ∃ r : Pr, r = { p with pl := { p.pl with tries := p.pl.tries + 1, due := d.now + 1 + clampW (d.c 30) } } := ⟨_, rfl⟩
          obtain ⟨hrok, hrM⟩ := put_same (q := r) hst.ok hL (by rw [hr]) (by rw [hr]) (by rw [hr]) (by rw [hr]) (by rw [hr]; rfl) (by rw [hr])
          have hrst := put_stand (q := r) hst hL (by rw [hr]; rfl) hrok
          have hkeysS := hst.keysT
          rw [s1, ← hpx] at hrst hkeysS
          rw [updT_split hkeysS (by rw [hr]; rfl)] at hrst
          have hrpl : r.pl = { x with tries := x.tries + 1, due := d.now + 1 + clampW (d.c 30) } := by rw [hr, ← hpx]
          have hs2 : stageT d.c (d.now + 1) T (k + 1) = tickT d.c (d.now + 1) (T.take k) ++ r.pl :: T.drop (k + 1) := by rw [s2, hX, hrpl]; rfl
          rw [← hs2] at hrst
          have hprc : prC r = [boolD p.pl.known, u8D (p.pl.mac 0), u8D (p.pl.mac 1), u8D (p.pl.mac 2), u8D (p.pl.mac 3), u8D (p.pl.mac 4), u8D (p.pl.mac 5), intD (p.pl.tries + 1), intD (d.now + 1 + clampW (d.c 30)), .v (slV p.row p.pl.ws.length)] := by rw [hr]; rfl
          have hp1 : ∀ X, (cacheM e).upd p.g X p.g = X := fun X => by rw [upd_if, if_pos rfl]
          have hpc : e.cg ≠ p.g := (cache_ne hst.ok hp).2.1
          have hh1 : ∀ X, (cacheM e).upd p.g X e.cg = some (.cells 71 (hdrC e)) := fun X => by rw [upd_if, if_neg hpc, hhd]
          conv => whnf
          (refine pv_nil rfl ?_; (conv => whnf); refine pv_field ttH rfl rfl rfl ?_; conv => whnf)
          (refine pv_loadA (i := 0) ttH rfl rfl rfl (hpr) rfl ?_; conv => whnf)
          (refine pv_nil rfl ?_; (conv => whnf); refine pv_field ttH rfl rfl rfl ?_; conv => whnf)
          rw [et]
          refine op_storeA (i := 0) (l' := [boolD p.pl.known, u8D (p.pl.mac 0), u8D (p.pl.mac 1), u8D (p.pl.mac 2), u8D (p.pl.mac 3), u8D (p.pl.mac 4), u8D (p.pl.mac 5), intD (p.pl.tries + 1), intD p.pl.due, .v (slV p.row p.pl.ws.length)]) ttH rfl rfl rfl rfl hpr rfl rfl rfl rfl rfl ?_
          conv => whnf
          (refine pv_nil rfl ?_; (conv => whnf); refine pv_field ttH rfl rfl rfl ?_; conv => whnf)
          (refine pv_field ttH rfl rfl rfl ?_; conv => whnf)
          (refine pv_loadA (i := 0) ttH rfl rfl rfl (hh1 _) rfl ?_; conv => whnf)
          rw [hcc]
          refine CallVC.lookA (i := 0) hdue2 rfl rfl (conv_fp (hh1 _)) ?_
          rintro _ rfl
          rw [hnw]
          conv => whnf
          (refine pv_nil rfl ?_; (conv => whnf); refine pv_field ttH rfl rfl rfl ?_; conv => whnf)
          refine op_storeA (i := 0) (l' := prC r) ttH rfl rfl rfl rfl (hp1 _) rfl rfl rfl rfl (by rw [hprc]; rfl) ?_
          rw [upd_updc, hrM]
          conv => whnf
          refine ⟨by decide, ?_⟩
          conv => whnf
          refine ⟨Int × Int, plC, asksT d.c (d.now + 1) (T.take k) ++ [x.key], by rw [List.map_append, ← hpx]; rfl, fun _ => rfl, by rw [List.length_append]; show _ + 1 ≤ _; omega, by rw [List.length_append]; show (_ + 1) * 16 ≤ _; omega, rfl, ?_⟩
          conv => whnf
          rw [e0]
          refine ⟨(k + 1, e.put A B r, S2), [(1, 3)], [], ?_, ⟨q', rfl, hcc, hnw, hrst⟩, by show T.length - (k + 1) < T.length - k; omega⟩
          dsimp only
          rw [hasks, hlost]
          repeat' (first | exact trivial | exact .inl (DLe.refl _) | exact .inl (DLe.nil _ _) | (refine .inr ⟨rfl, _, ?_, rfl⟩; rfl) | exact rfl | exact .inl rfl | exact .inr ⟨rfl, rfl, rfl, rfl⟩ | exact Nat.zero_le _ | constructor)
  · have q' : k = T.length := by have := of_decide_eq_false q; omega
    subst q'
    rw [stage_end] at hst
    rw [List.take_length]
    conv => whnf
    exact .frz 1 _ _ _ _ _ rfl (.done _ _ rfl rfl ⟨rfl, e, rfl, rfl, hcc, hnw, hst⟩)
end Go.Proofs.Ytjgihniedhmpeaa.V
