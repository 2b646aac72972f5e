/-
  A frame waits for a new place, or is refused: the program's, by value. Conditions: the cache stands right, not too much is known.
  A place is learnt: the program's, by value. Conditions: the cache stands right, not too much is known.
  The keys of a map of places, gathered in a row. Conditions: the map's entries bear stamps of their own.
  slices.AppendSeq, slices.Collect over a map's keys. Conditions: the map's entries bear stamps of their own.
-/
import Derived.Test.YtfepckbhnghpeaaK7
import Derived.RangeFuncNested
import Derived.RangeFuncBound
import Derived.RangeFuncCalls
import Derived.RangeFuncLeaves
import Derived.RangeFuncGives
import Derived.Shelf.Abstract
import Derived.Shelf.RegionOpen
import Derived.WalkKit
import Derived.OwnWalkIn
import Derived.TacticsInMore
import Derived.RegionIn
import Derived.LoopNIn
import Derived.LoopIn
import Derived.Laws.IdiomRangeMap
import Derived.Maps.RangeRun
import Derived.Sort.MapsRangeIn
import Derived.BigFrameIn
import Derived.Maps.AppendAt
import Derived.Test.YtfepckbhnghpeaaProg
namespace Go.Proofs.Ytfepckbhnghpeaa.V
open Go.RowKit
attribute [local irreducible] Fn FnN OpVC ArC FnR ArL

def CDat.add (d : CDat) (q : Pr) : CDat := { d with L := d.L ++ [q], clk := d.clk + 1 }
theorem updR_if (M : Ar) (row : Option (Nat × Nat)) (x : It) (k : Nat) : updR M row x k = match row with
    | none => M k
    | some g => if k = g.1 then some x else M k := by
  cases row with
  | none => rfl
  | some g => exact upd_if _ _ _ _
theorem add_pr {d : CDat} (h : COk d) {q : Pr} (hg : cacheM d q.g = none) (hrow : ∀ x, q.row = some x → cacheM d x.1 = none ∧ x.1 ≠ q.g) (hb : q.born = d.clk) (hk : ∀ p ∈ d.L, p.pl.key ≠ q.pl.key) (hok : PrOk q)
    {M' : Ar} (hM : ∀ k, M' k = if k = d.cg then some (.cells 108 (hdrC (d.add q))) else if k = q.g then some (.cells 117 (prC q)) else updR ((cacheM d).upd d.mg (some (.ob (mapO (d.add q))))) q.row (.cells 39 (rowC wsE q.pl.ws q.rest)) k) : COk (d.add q) ∧ M' = cacheM (d.add q) := by
  have hcg := cache_hdr (d := d)
  have hmg := cache_map h
  have ne0 : d.cg ≠ d.mg := fun e => by rw [e, hmg] at hcg; cases hcg
  have ne1 : d.cg ≠ q.g := fun e => by rw [e, hg] at hcg; cases hcg
  have ne2 : d.mg ≠ q.g := fun e => by rw [e, hg] at hmg; cases hmg
  have hnd := h.nodup
  have hop := fun k => show cacheM d k = lget (items d) k from rfl
  unfold items at hnd hop
  generalize hR : d.L.flatMap prItems = R at *
  simp only [List.map_cons, List.nodup_cons, List.mem_cons, not_or] at hnd
  obtain ⟨⟨_, r1⟩, r2, r5⟩ := hnd
  have inR : ∀ k, cacheM d k = none → k ∉ R.map (·.1) := fun k hk => by
    rw [hop, lget_cons, lget_cons] at hk
    split at hk
    · cases hk
    · split at hk
      · cases hk
      · exact lget_none.1 hk
  have r3 := inR _ hg
  have hnew : (items (d.add q)).Perm (openI (d.add q) (prItems q) R) := by rw [← hR]; exact items_snoc rfl
  have rk : ∀ x ∈ (d.add q).L, PrOk x := fun x hx => by
    rcases List.mem_append.1 hx with hx | hx
    · exact h.rows x hx
    · rw [List.mem_singleton.1 hx]; exact hok
  have hkeys : ((d.add q).L.map fun p => p.pl.key).Nodup := by
    show ((d.L ++ [q]).map fun p => p.pl.key).Nodup
    rw [List.map_append, List.nodup_append]
    refine ⟨h.keys, by simp, fun a ha b hb e => ?_⟩
    obtain ⟨p, hp, rfl⟩ := List.mem_map.1 ha
    have hb' : b = q.pl.key := by simpa using hb
    exact hk p hp (e.trans hb')
  have hbn : ((d.add q).L.map Pr.born).Nodup := by
    show ((d.L ++ [q]).map Pr.born).Nodup
    rw [List.map_append, List.nodup_append]
    refine ⟨h.born, by simp, fun a ha b hb' e => ?_⟩
    obtain ⟨p, hp, rfl⟩ := List.mem_map.1 ha
    have hb2 : b = q.born := by simpa using hb'
    have := h.bclk p hp
    omega
  have hbc : ∀ x ∈ (d.add q).L, x.born < (d.add q).clk := fun x hx => by
    show x.born < d.clk + 1
    rcases List.mem_append.1 hx with hx | hx
    · exact Nat.lt_succ_of_lt (h.bclk x hx)
    · rw [List.mem_singleton.1 hx]; omega
  cases hr : q.row with
  | none =>
    have hq1 : prItems q = [(q.g, .cells 117 (prC q))] := by unfold prItems prRow; rw [hr]
    have hnd' : ((openI (d.add q) (prItems q) R).map (·.1)).Nodup := by
      unfold openI
      rw [hq1]
      simp only [List.cons_append, List.nil_append, List.map_cons, List.nodup_cons, List.mem_cons, not_or]
      exact ⟨⟨ne0, ne1, r1⟩, ⟨ne2, r2⟩, r3, r5⟩
    refine ⟨⟨(nodup_perm hnew).2 hnd', rk, hkeys, hbn, hbc⟩, cache_is hnew hnd' fun k => ?_⟩
    rw [hM, updR_if, hr, upd_if, hop]
    unfold openI
    rw [hq1]
    simp only [List.cons_append, List.nil_append, lget_cons]
    show (if k = d.cg then _ else _) = if k = d.cg then _ else if k = d.mg then _ else _
    by_cases e1 : k = d.cg
    · simp [e1]
    by_cases e2 : k = d.mg
    · simp [e2, Ne.symm ne0, ne2]
    by_cases e3 : k = q.g
    · simp [e3, Ne.symm ne1, Ne.symm ne2]
    simp [e1, e2, e3]
  | some x =>
    obtain ⟨g1, c1⟩ := x
    obtain ⟨f1, f2⟩ := hrow _ hr
    dsimp only at f1 f2
    have m1 : d.cg ≠ g1 := fun e => by rw [e, f1] at hcg; cases hcg
    have m2 : d.mg ≠ g1 := fun e => by rw [e, f1] at hmg; cases hmg
    have r4 := inR _ f1
    have hq1 : prItems q = [(q.g, .cells 117 (prC q)), (g1, .cells 39 (rowC wsE q.pl.ws q.rest))] := by unfold prItems prRow; rw [hr]
    have hnd' : ((openI (d.add q) (prItems q) R).map (·.1)).Nodup := by
      unfold openI
      rw [hq1]
      simp only [List.cons_append, List.nil_append, List.map_cons, List.nodup_cons, List.mem_cons, not_or]
      exact ⟨⟨ne0, ne1, m1, r1⟩, ⟨ne2, m2, r2⟩, ⟨Ne.symm f2, r3⟩, r4, r5⟩
    refine ⟨⟨(nodup_perm hnew).2 hnd', rk, hkeys, hbn, hbc⟩, cache_is hnew hnd' fun k => ?_⟩
    rw [hM, updR_if, hr, upd_if, hop]
    unfold openI
    rw [hq1]
    simp only [List.cons_append, List.nil_append, lget_cons]
    show (if k = d.cg then _ else _) = if k = d.cg then _ else if k = d.mg then _ else _
    by_cases e1 : k = d.cg
    · simp [e1]
    by_cases e2 : k = d.mg
    · simp [e2, Ne.symm ne0, ne2, m2]
    by_cases e3 : k = q.g
    · simp [e3, Ne.symm ne1, Ne.symm ne2]
    by_cases e4 : k = g1
    · simp [e4, Ne.symm m1, Ne.symm m2, f2]
    simp [e1, e2, e3, e4]
theorem add_stand {d : CDat} {T : List Pl} (h : CStand d T) {q : Pr} (hk : ∀ p ∈ d.L, p.pl.key ≠ q.pl.key) (hok : COk (d.add q)) : CStand (d.add q) (insT q.pl T) := by
  have hq : PrOk q := hok.rows q (by unfold CDat.add; simp)
  refine ⟨hok, ?_, insT_sort hq.2.2.1 h.sort fun y hy => ?_⟩
  · show ((d.L ++ [q]).map Pr.pl).Perm _
    rw [List.map_append]
    exact (List.perm_append_comm.trans ((h.perm.cons q.pl) : ([q].map Pr.pl ++ d.L.map Pr.pl).Perm (q.pl :: T))).trans (insT_perm _ _).symm
  · obtain ⟨p, hp, rfl⟩ := List.mem_map.1 (h.perm.mem_iff.2 hy)
    exact hk p hp
theorem waitsL_add {d : CDat} {q : Pr} : waitsL (d.add q).L = waitsL d.L + q.pl.ws.length := by
  unfold waitsL
  show waitsT ((d.L ++ [q]).map Pr.pl) = _
  rw [List.map_append, waitsT_append]
  simp [waitsT]
theorem map_add {d : CDat} {q : Pr} (hb : q.born = d.clk) : mapO (d.add q) = .map (d.L.map entP ++ [({ key := placeV q.pl.nic q.pl.next, val := .pointer (some ⟨q.g, 0, none⟩), born := d.clk } : MapEntry)]).toArray (d.clk + 1) := by
  unfold mapO
  show Obj.map ((d.L ++ [q]).map entP).toArray (d.clk + 1) = _
  rw [List.map_append]
  simp only [List.map_cons, List.map_nil, entP, hb]

set_option maxHeartbeats 16000000 in
theorem want_no (d : CDat) (T : List Pl) (h : CStand d T) (p : Pr) (hmem : p ∈ d.L) (b : List Nat) (hk : keyW p.pl.key) (hno : p.pl.known = true ∨ (waitsT T : Int) ≥ d.c 28) :
    ArC Try.prog 28 [ptrD d.cg, .agg (plC p.pl.key), octR b] (cacheM d) fun r M => M = cacheM d ∧ r = .tup [boolD false, errD (match p.pl.known with
      | true => 10
      | false => 7)] := by
  refine arOf [] Try.func28 rfl (by kernel_rfl) (Nat.le_of_ble_eq_true rfl) fun S => ?_
  have hg := get_ar d h.ok p.pl.key hk
  have hh := cache_hdr (d := d)
  have hpr := cache_pr h.ok hmem
  have hwl : waitsL d.L = waitsT T := h.waits
  conv => whnf
  (refine pv_isNil (b := false) ttH rfl rfl rfl (.inl ⟨rfl, rfl⟩) ?_; conv => whnf)
  refine CallVC.ar (i := 0) hg rfl rfl ?_
  rintro _ _ S1 ⟨rfl, (⟨hno, _⟩ | ⟨p', hp', hpk, rfl⟩)⟩
  · exact absurd rfl (hno p hmem)
  obtain rfl : p' = p := find_mem h.ok hp' hmem hpk
  conv => whnf
  (refine pv_isNil (b := true) ttH rfl rfl rfl (.inr ⟨rfl, rfl⟩) ?_; conv => whnf)
  (refine pv_nil rfl ?_; (conv => whnf); refine pv_field ttH rfl rfl rfl ?_; conv => whnf)
  refine pv_loadA (i := 0) ttH rfl rfl rfl hpr rfl ?_
  cases hkn : p'.pl.known with
  | true =>
    conv => whnf
    exact .done _ _ rfl rfl ⟨rfl, rfl⟩
  | false =>
    have hq : (waitsT T : Int) ≥ d.c 28 := hno.resolve_left (by rw [hkn]; decide)
    conv => whnf
    (refine pv_nil rfl ?_; (conv => whnf); refine pv_field ttH rfl rfl rfl ?_; conv => whnf)
    (refine pv_loadA (i := 0) ttH rfl rfl rfl (hh) rfl ?_; conv => whnf)
    (refine pv_nil rfl ?_; (conv => whnf); refine pv_field ttH rfl rfl rfl ?_; conv => whnf)
    (refine pv_field ttH rfl rfl rfl ?_; conv => whnf)
    (refine pv_loadA (i := 0) ttH rfl rfl rfl (hh) rfl ?_; conv => whnf)
    refine Fork.intro (fun _ => ?_) (fun q => absurd (show (d.c 28 : Int) ≤ waitsL d.L by rw [hwl]; exact hq) (of_decide_eq_false q))
    conv => whnf
    exact .done _ _ rfl rfl ⟨rfl, rfl⟩
set_option maxHeartbeats 16000000 in
theorem want_new (d : CDat) (T : List Pl) (h : CStand d T) (k : Int × Int) (hk : keyW k) (hno : ∀ p ∈ d.L, p.pl.key ≠ k) (b : List Nat) (hb : b.length ≤ 100000) (hn : 0 ≤ d.now ∧ d.now ≤ 2000000000) (hw : waitsT T ≤ 1000000) :
    ArC Try.prog 28 [ptrD d.cg, .agg (plC k), octR b] (cacheM d) fun r M => r = .tup [boolD (wantT d.c d.now T k b).1.1, errD (wantT d.c d.now T k b).1.2] ∧ ∃ d', M = cacheM d' ∧ d'.cg = d.cg ∧ d'.c = d.c ∧ d'.now = d.now ∧ CStand d' (wantT d.c d.now T k b).2 := by
  refine arOf [] Try.func28 rfl (by kernel_rfl) (Nat.le_of_ble_eq_true rfl) fun S => ?_
  have hg := get_ar d h.ok k hk
  obtain ⟨lk, hlk⟩ := place_key k hk
  have hh := cache_hdr (d := d)
  have hm := cache_map h.ok
  have hL := ent_keys h.ok
  have hj := join1_fn b (by omega)
  have hwl : waitsL d.L = waitsT T := h.waits
  have hll := h.len
  have hdue := due_fn d (d.c 30) hn
  unfold wantT
  rw [h.none hno]
  dsimp only
  conv => whnf
  (refine pv_isNil (b := false) ttH rfl rfl rfl (.inl ⟨rfl, rfl⟩) ?_; conv => whnf)
  refine CallVC.ar (i := 0) hg rfl rfl ?_
  rintro _ _ S1 ⟨rfl, (⟨_, rfl⟩ | ⟨p', hp', hpk, rfl⟩)⟩
  rotate_left
  · exact absurd hpk (hno p' hp')
  conv => whnf
  (refine pv_nil rfl ?_; (conv => whnf); refine pv_field ttH rfl rfl rfl ?_; conv => whnf)
  (refine pv_loadA (i := 0) ttH rfl rfl rfl (hh) rfl ?_; conv => whnf)
  (refine pv_nil rfl ?_; (conv => whnf); refine pv_field ttH rfl rfl rfl ?_; conv => whnf)
  (refine pv_field ttH rfl rfl rfl ?_; conv => whnf)
  (refine pv_loadA (i := 0) ttH rfl rfl rfl (hh) rfl ?_; conv => whnf)
  rw [hwl]
  cases hq1 : decide ((waitsT T : Int) ≥ d.c 28) with
  | true =>
    conv => whnf
    exact .done _ _ rfl rfl ⟨rfl, d, rfl, rfl, rfl, rfl, h⟩
  | false =>
    conv => whnf
    (refine pv_nil rfl ?_; (conv => whnf); refine pv_field ttH rfl rfl rfl ?_; conv => whnf)
    (refine pv_loadA (i := 0) ttH rfl rfl rfl (hh) rfl ?_; conv => whnf)
    refine pv_mapLen (i := 0) ttH rfl rfl rfl rfl hm ?_
    rw [show (d.L.map entP).toArray.size = T.length by rw [← hll]; simp]
    conv => whnf
    (refine pv_nil rfl ?_; (conv => whnf); refine pv_field ttH rfl rfl rfl ?_; conv => whnf)
    (refine pv_field ttH rfl rfl rfl ?_; conv => whnf)
    (refine pv_loadA (i := 0) ttH rfl rfl rfl (hh) rfl ?_; conv => whnf)
    cases hq2 : decide ((T.length : Int) ≥ d.c 27) with
    | true =>
      conv => whnf
      exact .done _ _ rfl rfl ⟨rfl, d, rfl, rfl, rfl, rfl, h⟩
    | false =>
      conv => whnf
      (refine pv_nil rfl ?_; (conv => whnf); refine pv_field ttH rfl rfl rfl ?_; conv => whnf)
      (refine pv_field ttH rfl rfl rfl ?_; conv => whnf)
      (refine pv_loadA (i := 0) ttH rfl rfl rfl (hh) rfl ?_; conv => whnf)
      refine CallVC.lookA (i := 0) hdue rfl rfl (conv_fp hh) ?_
      rintro _ rfl
      conv => whnf
      (refine pv_nil rfl ?_; (conv => whnf); refine pv_field ttH rfl rfl rfl ?_; conv => whnf)
      (refine pv_loadA (i := 0) ttH rfl rfl rfl (hh) rfl ?_; conv => whnf)
      refine op_absorb (i := 0) (j := 2) rfl rfl rfl fun g S2 hgn => ?_
      have nmg : d.mg ≠ g := fun e => by rw [e, hgn] at hm; cases hm
      have ncg : d.cg ≠ g := fun e => by rw [e, hgn] at hh; cases hh
      have ncm : d.cg ≠ d.mg := fun e => by rw [e, hm] at hh; cases hh
      have hm1 : ∀ X, (cacheM d).upd g X d.mg = some (.ob (mapO d)) := fun X => by rw [upd_if, if_neg nmg, hm]
      refine op_setMapA (i := 0) (L := d.L.map entP) (vs := [.int .i64 k.1, .int .u32 k.2]) (u := .pointer (some ⟨g, 0, none⟩)) rfl Try.underlying106 place_law rfl rfl rfl rfl (hm1 _) hlk hL (fun _ => ?_) (fun j e he hek => ?_)
      rotate_left
      · obtain ⟨p, hp, rfl⟩ := List.mem_map.1 (List.mem_of_getElem? he)
        exact absurd (placeV_inj (k := p.pl.key) (k' := k) hek) (hno p hp)
      have hpl : ∀ X Y, (((cacheM d).upd g Y).upd d.mg X) g = Y := fun X Y => by rw [upd_if, if_neg (Ne.symm nmg), upd_if, if_pos rfl]
      conv => whnf
      (refine pv_nil rfl ?_; (conv => whnf); refine pv_field ttH rfl rfl rfl ?_; conv => whnf)
      refine pv_loadA (i := 0) ttH rfl rfl rfl (hpl _ _) rfl ?_
      conv => whnf
      refine ⟨by decide, ?_⟩
      conv => whnf
      refine CallVC.pure hj rfl ?_
      rintro _ rfl
      conv => whnf
      refine ⟨by decide, ?_⟩
      conv => whnf
      refine ⟨List Nat, wsE, [b], rfl, fun _ => rfl, Nat.le_of_ble_eq_true rfl, Nat.le_of_ble_eq_true rfl, rfl, ?_⟩
      conv => whnf
      (refine pv_nil rfl ?_; (conv => whnf); refine pv_field ttH rfl rfl rfl ?_; conv => whnf)
      refine op_absorbRow (i := 0) (r := 3) rfl rfl fun row rest S3 hrw1 hrw2 => ?_
      obtain ⟨y, hy⟩ : ∃ y, row = some y := by
        cases row with
        | none => have := hrw1 rfl; simp at this
        | some y => exact ⟨y, rfl⟩
      subst hy
      obtain ⟨g1, c1⟩ := y
      obtain ⟨hf1, hf2, hf3⟩ := hrw2 _ rfl
      dsimp only at hf1 hf2 hf3
      rw [upd_if] at hf1
      split at hf1
      · cases hf1
      rename_i n1
      rw [upd_if] at hf1
      split at hf1
      · cases hf1
      rename_i n2
      obtain ⟨q, hqq⟩ : ∃ q : Pr, q = ⟨⟨k.1, k.2, false, mac0, 1, d.now + clampW (d.c 30), [b]⟩, d.clk, g, some (g1, c1), rest⟩ := ⟨_, rfl⟩
      have hpr1 : ∀ X Y Z, updR (((cacheM d).upd g Y).upd d.mg X) (some (g1, c1)) Z g = Y := fun X Y Z => by
        show ((((cacheM d).upd g Y).upd d.mg X).upd g1 _) g = _
        rw [upd_if, if_neg (Ne.symm n2), hpl]
      refine op_storeS (i := 0) (row := some (g1, c1)) (n := 1) (l' := prC q) ttH rfl rfl rfl rfl rfl (hpr1 _ _ _) rfl (by rw [hqq]; rfl) ?_
      have m1 : d.cg ≠ g1 := fun e => by rw [e, hf1] at hh; cases hh
      have hh1 : ∀ X Y Z W, (updR (((cacheM d).upd g Y).upd d.mg X) (some (g1, c1)) Z).upd g W d.cg = some (.cells 108 (hdrC d)) := fun X Y Z W => by
        show ((((cacheM d).upd g Y).upd d.mg X).upd g1 _).upd g _ d.cg = _
        rw [upd_if, if_neg ncg, upd_if, if_neg m1, upd_if, if_neg ncm, upd_if, if_neg ncg, hh]
      have ew : IntKind.i64.wrap (((waitsL d.L : Nat) : Int) + 1) = ((waitsL (d.add q).L : Nat) : Int) := by
        rw [waitsL_add, hqq]
        show _ = ((waitsL d.L + 1 : Nat) : Int)
        rw [IntWalk.i64_in _ (by omega)]; omega
      have hq0 : q.pl = ⟨k.1, k.2, false, mac0, 1, d.now + clampW (d.c 30), [b]⟩ := by rw [hqq]
      have hqk : q.pl.key = k := by rw [hq0]; rfl
      have hqg : q.g = g := by rw [hqq]
      have hqr : q.row = some (g1, c1) := by rw [hqq]
      have hqb : q.born = d.clk := by rw [hqq]
      have hqe : q.rest = rest := by rw [hqq]
      have hqo : PrOk q := ⟨fun e => (by rw [hqr] at e; cases e), (fun x hx => by rw [hqr] at hx; injection hx with hx; subst hx; rw [hqe, hq0]; exact ⟨by rw [hf2]; omega, hf3⟩), by rw [hqk]; exact hk⟩
      have hqn : ∀ p ∈ d.L, p.pl.key ≠ q.pl.key := fun p hp => by rw [hqk]; exact hno p hp
      have hmap := map_add (d := d) (q := q) hqb
      conv => whnf
      (refine pv_nil rfl ?_; (conv => whnf); refine pv_field ttH rfl rfl rfl ?_; conv => whnf)
      (refine pv_loadA (i := 0) ttH rfl rfl rfl (hh1 _ _ _ _) rfl ?_; conv => whnf)
      (refine pv_nil rfl ?_; (conv => whnf); refine pv_field ttH rfl rfl rfl ?_; conv => whnf)
      rw [ew]
      refine op_storeA (i := 0) (l' := hdrC (d.add q)) ttH rfl rfl rfl rfl (hh1 _ _ _ _) rfl rfl rfl rfl rfl ?_
      have hadd := fun M' => add_pr (M' := M') h.ok (q := q) (by rw [hqg]; exact hgn) (fun x hx => by rw [hqr] at hx; injection hx with hx; subst hx; rw [hqg]; exact ⟨hf1, n2⟩) hqb hqn hqo
      obtain ⟨hcok, hM'⟩ := hadd (((updR (((cacheM d).upd g (some (.cells 117 ([boolD false, u8D 0, u8D 0, u8D 0, u8D 0, u8D 0, u8D 0, intD 1, intD (d.now + clampW (d.c 30)), .v (.slice none 0 0)])))).upd d.mg (some (.ob (mapO (d.add q))))) (some (g1, c1)) (.cells 39 (rowC wsE [b] rest))).upd g (some (.cells 117 (prC q)))).upd d.cg (some (.cells 108 (hdrC (d.add q))))) (fun k' => by
        rw [hqr, hqg, hqe, hq0]
        show ((((((cacheM d).upd g _).upd d.mg _).upd g1 _).upd g _).upd d.cg _) k' = if _ then _ else if _ then _ else (((cacheM d).upd d.mg _).upd g1 _) k'
        simp only [upd_if]
        by_cases e1 : k' = g
        · simp [e1]
        · simp [e1])
      rw [hmap] at hM'
      have hst := add_stand h hqn hcok
      rw [hq0] at hst
      have hpl0 : q.pl.nic = k.1 ∧ q.pl.next = k.2 := by rw [hq0]; exact ⟨rfl, rfl⟩
      rw [hpl0.1, hpl0.2, hqg] at hM'
      unfold placeV at hM'
      conv => whnf
      exact .done _ _ rfl rfl ⟨rfl, d.add q, hM', rfl, rfl, rfl, hst⟩
end Go.Proofs.Ytfepckbhnghpeaa.V
namespace Go.Proofs.Ytfepckbhnghpeaa.V
open Go.RowKit
attribute [local irreducible] Fn FnN OpVC ArC FnR ArL

theorem keys_at {d : CDat} (h : COk d) {A B : List Pr} {p : Pr} (hL : d.L = A ++ p :: B) {j : Nat} {e : MapEntry} (hj : (d.L.map entP)[j]? = some e) (he : e.key = placeV p.pl.key.1 p.pl.key.2) : j = A.length ∧ e = entP p := by
  rw [List.getElem?_map] at hj
  cases hq : d.L[j]? with
  | none => rw [hq] at hj; cases hj
  | some p2 =>
    rw [hq] at hj
    simp only [Option.map_some, Option.some.injEq] at hj
    subst hj
    have hk : p2.pl.key = p.pl.key := placeV_inj (k := p2.pl.key) (k' := p.pl.key) he
    have hpa : d.L[A.length]? = some p := by rw [hL]; simp
    have e1 : (d.L.map fun p => p.pl.key)[j]? = some p.pl.key := by rw [List.getElem?_map, hq]; exact congrArg some hk
    have e2 : (d.L.map fun p => p.pl.key)[A.length]? = some p.pl.key := by rw [List.getElem?_map, hpa]; rfl
    have hjl : j < (d.L.map fun p => p.pl.key).length := (List.getElem?_eq_some_iff.1 e1).1
    have hj2 : j = A.length := (List.getElem?_inj hjl h.keys).1 (e1.trans e2.symm)
    subst hj2
    rw [hpa] at hq
    injection hq with hq
    exact ⟨rfl, by rw [hq]⟩
theorem map_rep {d : CDat} {A B : List Pr} {p q : Pr} (hL : d.L = A ++ p :: B) (hk : q.pl.key = p.pl.key) (hb : q.born = p.born) : mapO (d.put A B q) = .map ((d.L.map entP).set A.length { entP p with val := .pointer (some ⟨q.g, 0, none⟩) }).toArray d.clk := by
  unfold mapO
  show Obj.map ((A ++ q :: B).map entP).toArray d.clk = _
  rw [hL, List.map_append, List.map_cons, List.map_append, List.map_cons]
  congr 2
  rw [List.set_append_right _ _ (by simp)]
  simp only [List.length_map, Nat.sub_self, List.set_cons_zero]
  congr 2
  unfold entP
  have : (q.pl.nic, q.pl.next) = (p.pl.nic, p.pl.next) := hk
  injection this with e1 e2
  rw [hb, e1, e2]
theorem rep_pr {d : CDat} (h : COk d) {A B : List Pr} {p q : Pr} (hL : d.L = A ++ p :: B) (hg : cacheM d q.g = none) (hr : q.row = none) (hk : q.pl.key = p.pl.key) (hb : q.born = p.born) (hok : PrOk q) :
    COk (d.put A B q) ∧ ∀ k x, cacheM (d.put A B q) k = some x → (k = d.cg ∧ x = .cells 108 (hdrC (d.put A B q))) ∨ (k ≠ d.cg ∧ k = d.mg ∧ x = .ob (mapO (d.put A B q))) ∨ (k ≠ d.cg ∧ k ≠ d.mg ∧ k = q.g ∧ x = .cells 117 (prC q)) ∨ (k ≠ d.cg ∧ k ≠ d.mg ∧ k ≠ q.g ∧ (∀ y, p.row = some y → k ≠ y.1) ∧ cacheM d k = some x) := by
  have hmem : p ∈ d.L := by rw [hL]; simp
  have hcg := cache_hdr (d := d)
  have hmg := cache_map h
  have ne0 : d.cg ≠ d.mg := fun e => by rw [e, hmg] at hcg; cases hcg
  have ne1 : d.cg ≠ q.g := fun e => by rw [e, hg] at hcg; cases hcg
  have ne2 : d.mg ≠ q.g := fun e => by rw [e, hg] at hmg; cases hmg
  have hop := cache_open h hL
  have hnd := (nodup_perm (items_open hL)).1 h.nodup
  unfold openI at hop hnd
  have hop2 := fun k => congrFun hop k
  generalize hR : (A ++ B).flatMap prItems = R at *
  have hq1 : prItems q = [(q.g, .cells 117 (prC q))] := by unfold prItems prRow; rw [hr]
  have hsub : ∀ k, k ∈ R.map (·.1) → k ≠ d.cg ∧ k ≠ d.mg ∧ k ∉ (prItems p).map (·.1) := fun k hk => by
    simp only [List.map_cons, List.map_append, List.nodup_cons, List.mem_cons, List.mem_append, not_or] at hnd
    obtain ⟨⟨_, _, r1⟩, ⟨_, r2⟩, r3⟩ := hnd
    refine ⟨fun e => r1 (e ▸ hk), fun e => r2 (e ▸ hk), fun hp => ?_⟩
    exact (List.nodup_append.1 r3).2.2 k hp k hk rfl
  have hRn : (R.map (·.1)).Nodup := by
    simp only [List.map_cons, List.map_append, List.nodup_cons, List.mem_cons, List.mem_append, not_or] at hnd
    exact (List.nodup_append.1 hnd.2.2).2.1
  have hRget : ∀ k x, lget R k = some x → cacheM d k = some x := fun k x hx => by
    rw [hop]
    refine lget_mem hnd ?_
    exact List.mem_cons_of_mem _ (List.mem_cons_of_mem _ (List.mem_append_right _ (lget_in hx)))
  have r3 : q.g ∉ R.map (·.1) := fun hin => by
    obtain ⟨y, hy, e⟩ := List.mem_map.1 hin
    have := hRget y.1 y.2 (lget_mem hRn hy)
    rw [e, hg] at this; cases this
  have hnew : (items (d.put A B q)).Perm (openI (d.put A B q) (prItems q) R) := by rw [← hR]; exact items_open rfl
  have hnd' : ((openI (d.put A B q) (prItems q) R).map (·.1)).Nodup := by
    unfold openI
    rw [hq1]
    simp only [List.cons_append, List.nil_append, List.map_cons, List.nodup_cons, List.mem_cons, not_or]
    exact ⟨⟨ne0, ne1, fun hk => (hsub _ hk).1 rfl⟩, ⟨ne2, fun hk => (hsub _ hk).2.1 rfl⟩, r3, hRn⟩
  refine ⟨⟨(nodup_perm hnew).2 hnd', fun x hx => ?_, put_keys h hL hk, (put_born h hL hb).1, (put_born h hL hb).2⟩, fun k x hx => ?_⟩
  · rcases List.mem_append.1 hx with hx | hx
    · exact h.rows x (by rw [hL]; simp [hx])
    · rcases List.mem_cons.1 hx with rfl | hx
      · exact hok
      · exact h.rows x (by rw [hL]; simp [hx])
  · have hx : lget (items (d.put A B q)) k = some x := hx
    rw [lget_perm hnew ((nodup_perm hnew).2 hnd')] at hx
    unfold openI at hx
    rw [hq1] at hx
    simp only [List.cons_append, List.nil_append, lget_cons] at hx
    change (if k = d.cg then _ else if k = d.mg then _ else _) = some x at hx
    by_cases e1 : k = d.cg
    · rw [if_pos e1] at hx
      injection hx with hx
      exact .inl ⟨e1, hx.symm⟩
    rw [if_neg e1] at hx
    by_cases e2 : k = d.mg
    · rw [if_pos e2] at hx
      injection hx with hx
      exact .inr (.inl ⟨e1, e2, hx.symm⟩)
    rw [if_neg e2] at hx
    by_cases e3 : k = q.g
    · rw [if_pos e3] at hx
      injection hx with hx
      exact .inr (.inr (.inl ⟨e1, e2, e3, hx.symm⟩))
    rw [if_neg e3] at hx
    refine .inr (.inr (.inr ⟨e1, e2, e3, fun y hy e => ?_, hRget k x hx⟩))
    have hin : k ∈ R.map (·.1) := List.mem_map.2 ⟨_, lget_in hx, rfl⟩
    refine (hsub k hin).2.2 ?_
    unfold prItems prRow
    rw [hy, e]
    simp

theorem DLe.tup2 {a b c : D} (h : DLe a b) : DLe (.tup [a, c]) (.tup [b, c]) := dleP h
theorem ws_thaw {C : Ctx} {g c : Nat} {ws : List (List Nat)} {rest : List Value} {x : D} {v : Value} (hok : C.ok g) (hat : (It.cells 39 (rowC wsE ws rest)).at C.still g) (h : Rep C (.tup [.v (slV (some (g, c)) ws.length), x]) v) : Rep C (.tup [wsR ws, x]) v := by
  cases h with
  | tup hs hh =>
    refine .tup hs fun j d u hd hu => ?_
    match j, hd with
    | 0, hd =>
      injection hd with hd; subst hd
      exact rowsA_at (M := fun k => if k = g then some (.cells 39 (rowC wsE ws rest)) else none) (row := some (g, c)) (fun k y hy => by
        by_cases e : k = g
        · subst e; rw [if_pos rfl] at hy; injection hy with hy; subst hy; exact ⟨hok, hat⟩
        · rw [if_neg e] at hy; cases hy) (fun e => by cases e) (fun _ _ _ => rfl) (fun y hy => by injection hy with hy; subst hy; exact if_pos rfl) (hh 0 _ u rfl hu)
    | j + 1, hd => exact hh (j + 1) d u hd hu
set_option maxHeartbeats 16000000 in
theorem learn_old (d : CDat) (T : List Pl) (h : CStand d T) (A B : List Pr) (p : Pr) (hL : d.L = A ++ p :: B) (m : Nat → Int) (add : Bool) (hn : 0 ≤ d.now ∧ d.now ≤ 2000000000) (hw : waitsT T ≤ 1000000) (hk : keyW p.pl.key) :
    ArC Try.prog 31 [ptrD d.cg, .agg (plC p.pl.key), .agg (macC m), boolD add] (cacheM d) fun r M => r = .tup [wsR p.pl.ws, boolD true] ∧ ∃ d', M = cacheM d' ∧ d'.cg = d.cg ∧ d'.c = d.c ∧ d'.now = d.now ∧ CStand d' (updT T ⟨p.pl.nic, p.pl.next, true, m, 0, d.now + clampW (d.c 29), []⟩) := by
  refine arOf [] Try.func31 rfl (by kernel_rfl) (Nat.le_of_ble_eq_true rfl) fun S => ?_
  have hmem : p ∈ d.L := by rw [hL]; simp
  have hg := get_ar d h.ok p.pl.key hk
  obtain ⟨lk, hlk⟩ := place_key p.pl.key hk
  have hh := cache_hdr (d := d)
  have hm := cache_map h.ok
  have hLk := ent_keys h.ok
  have hpr := cache_pr h.ok hmem
  have hwl : waitsL d.L = waitsT T := h.waits
  have hdue := fun X Y => due_gen d.c d.now X Y (d.c 29) hn
  obtain ⟨hp1, hp2, _⟩ := h.ok.rows p hmem
  have hws : p.pl.ws.length ≤ waitsT T := waitsT_mem (h.perm.mem_iff.1 (List.mem_map_of_mem hmem))
  conv => whnf
  refine CallVC.ar (i := 0) hg rfl rfl ?_
  rintro _ _ S1 ⟨rfl, (⟨hno, _⟩ | ⟨p', hp', hpk, rfl⟩)⟩
  · exact absurd rfl (hno p hmem)
  obtain rfl : p' = p := find_mem h.ok hp' hmem hpk
  conv => whnf
  (refine pv_isNil (b := false) ttH rfl rfl rfl (.inl ⟨rfl, rfl⟩) ?_; conv => whnf)
  (refine pv_isNil (b := false) ttH rfl rfl rfl (.inl ⟨rfl, rfl⟩) ?_; conv => whnf)
  (refine pv_isNil (b := true) ttH rfl rfl rfl (.inr ⟨rfl, rfl⟩) ?_; conv => whnf)
  (refine pv_nil rfl ?_; (conv => whnf); refine pv_field ttH rfl rfl rfl ?_; conv => whnf)
  (refine pv_loadA (i := 0) ttH rfl rfl rfl (hpr) rfl ?_; conv => whnf)
  (refine pv_nil rfl ?_; (conv => whnf); refine pv_field ttH rfl rfl rfl ?_; conv => whnf)
  (refine pv_loadA (i := 0) ttH rfl rfl rfl (hh) rfl ?_; conv => whnf)
  refine pv_lenS (row := p'.row) (n := p'.pl.ws.length) ttH (fun e => by rw [hp1 e]; rfl) rfl rfl ?_
  conv => whnf
  have hwp : p'.pl.ws.length ≤ waitsL d.L := by rw [hwl]; exact hws
  have ew : IntKind.i64.wrap (((waitsL d.L : Nat) : Int) - ((p'.pl.ws.length : Nat) : Int)) = ((waitsL d.L - p'.pl.ws.length : Nat) : Int) := by
    rw [IntWalk.i64_in _ (by omega)]; omega
  obtain ⟨hdX, hhX⟩ : ∃ l, l = cfgC d.c ++ [intD d.now, .v (.map (some d.mg)), intD ((waitsL d.L - p'.pl.ws.length : Nat) : Int)] := ⟨_, rfl⟩
  (refine pv_nil rfl ?_; (conv => whnf); refine pv_field ttH rfl rfl rfl ?_; conv => whnf)
  rw [ew]
  refine op_storeA (i := 0) (l' := hdX) ttH rfl rfl rfl rfl hh rfl rfl rfl rfl (by rw [hhX]; rfl) ?_
  have hh1 : ∀ X, (cacheM d).upd d.cg X d.cg = X := fun X => by rw [upd_if, if_pos rfl]
  rw [hhX]
  conv => whnf
  (refine pv_nil rfl ?_; (conv => whnf); refine pv_field ttH rfl rfl rfl ?_; conv => whnf)
  (refine pv_loadA (i := 0) ttH rfl rfl rfl (hh1 _) rfl ?_; conv => whnf)
  (refine pv_nil rfl ?_; (conv => whnf); refine pv_field ttH rfl rfl rfl ?_; conv => whnf)
  (refine pv_field ttH rfl rfl rfl ?_; conv => whnf)
  (refine pv_loadA (i := 0) ttH rfl rfl rfl (hh1 _) rfl ?_; conv => whnf)
  refine CallVC.lookA (i := 0) (hdue _ _) rfl rfl (conv_fp (hh1 _)) ?_
  rintro _ rfl
  conv => whnf
  refine op_absorb (i := 0) (j := 3) rfl rfl rfl fun g S2 hgn => ?_
  rw [upd_if] at hgn
  split at hgn
  · cases hgn
  rename_i n1
  have nmg : d.mg ≠ g := fun e => by rw [e, hgn] at hm; cases hm
  have ncm : d.cg ≠ d.mg := fun e => by rw [e, hm] at hh; cases hh
  have hm1 : ∀ X Y, ((cacheM d).upd d.cg X).upd g Y d.mg = some (.ob (mapO d)) := fun X Y => by rw [upd_if, if_neg nmg, upd_if, if_neg (Ne.symm ncm), hm]
  refine op_setMapA (i := 0) (L := d.L.map entP) (vs := [.int .i64 p'.pl.key.1, .int .u32 p'.pl.key.2]) (u := .pointer (some ⟨g, 0, none⟩)) rfl Try.underlying106 place_law rfl rfl rfl rfl (hm1 _ _) hlk hLk (fun hno => ?_) (fun j e he hek => ?_)
  · exact absurd rfl (hno (entP p') (List.mem_map_of_mem hmem))
  obtain ⟨rfl, rfl⟩ := keys_at h.ok hL he hek
  obtain ⟨q, hqq⟩ : ∃ q : Pr, q = ⟨⟨p'.pl.nic, p'.pl.next, true, m, 0, d.now + clampW (d.c 29), []⟩, p'.born, g, none, []⟩ := ⟨_, rfl⟩
  have hqg : q.g = g := by rw [hqq]
  have hqr : q.row = none := by rw [hqq]
  have hqb : q.born = p'.born := by rw [hqq]
  have hq0 : q.pl = ⟨p'.pl.nic, p'.pl.next, true, m, 0, d.now + clampW (d.c 29), []⟩ := by rw [hqq]
  have hqk : q.pl.key = p'.pl.key := by rw [hq0]; rfl
  have hqo : PrOk q := ⟨fun _ => (by rw [hq0]), fun x hx => (by rw [hqr] at hx; cases hx), by rw [hqk]; exact hk⟩
  obtain ⟨hcok, hsub⟩ := rep_pr h.ok hL (by rw [hqg]; exact hgn) hqr hqk hqb hqo
  have hmap := map_rep hL hqk hqb
  rw [hqg] at hmap
  have hst := put_stand h hL hqk hcok
  rw [hq0] at hst
  have hwq : waitsL (d.put A B q).L = waitsL d.L - p'.pl.ws.length := by
    have h2 : waitsL d.L = waitsT ((A ++ p' :: B).map Pr.pl) := by unfold waitsL; rw [hL]
    have h3 := waitsT_set (A := A.map Pr.pl) (B := B.map Pr.pl) (x := p'.pl) (y := q.pl)
    have h4 : waitsL (d.put A B q).L = waitsT ((A ++ q :: B).map Pr.pl) := rfl
    rw [h4, h2]
    rw [List.map_append, List.map_cons, List.map_append, List.map_cons]
    rw [hq0] at h3 ⊢
    have e0 : (List.length ([] : List (List Nat))) = 0 := rfl
    dsimp only at h3 ⊢
    omega
  have hhd : hdrC (d.put A B q) = cfgC d.c ++ [intD d.now, .v (.map (some d.mg)), intD ((waitsL d.L - p'.pl.ws.length : Nat) : Int)] := by
    unfold hdrC
    rw [hwq]
    rfl
  have hprq : prC q = [boolD true, u8D (m 0), u8D (m 1), u8D (m 2), u8D (m 3), u8D (m 4), u8D (m 5), intD 0, intD (d.now + clampW (d.c 29)), .v (.slice none 0 0)] := by
    unfold prC
    rw [hq0, hqr]
    show [_, _, _, _, _, _, _, _, _, D.v (slV none 0)] = _
    rw [slV_none]
  have hin : ∀ k x, cacheM (d.put A B q) k = some x → (((cacheM d).upd d.cg (some (.cells 108 (hdrC (d.put A B q))))).upd g (some (.cells 117 (prC q)))).upd d.mg (some (.ob (mapO (d.put A B q)))) k = some x ∧ ∀ y, p'.row = some y → k ≠ y.1 := fun k x hx => by
    obtain ⟨_, _, _, c4⟩ := cache_ne h.ok hmem
    rcases hsub k x hx with ⟨e1, e2⟩ | ⟨e0, e1, e2⟩ | ⟨e0, e1, e2, e3⟩ | ⟨e0, e1, e2, e3, e4⟩
    · refine ⟨by rw [upd_if, if_neg (by rw [e1]; exact ncm), upd_if, if_neg (by rw [e1]; exact fun e => n1 e.symm), upd_if, if_pos e1, e2], fun y hy => by rw [e1]; exact (c4 y hy).1⟩
    · refine ⟨by rw [upd_if, if_pos e1, e2], fun y hy => by rw [e1]; exact (c4 y hy).2.1⟩
    · refine ⟨by rw [upd_if, if_neg e1, upd_if, if_pos (by rw [e2, hqg]), e3], fun y hy e => ?_⟩
      rw [e2, hqg] at e
      have := cache_row h.ok hmem hy
      rw [← e, hgn] at this; cases this
    · exact ⟨by rw [upd_if, if_neg e1, upd_if, if_neg (by rw [← hqg]; exact e2), upd_if, if_neg e0, e4], e3⟩
  rw [hhd, hprq, hmap] at hin
  conv => whnf
  cases hr : p'.row with
  | none =>
    have hw0 := hp1 hr
    rw [hr] at hin
    refine .le (d' := .tup [wsR p'.pl.ws, boolD true]) (DLe.tup2 ?_) (.drp _ _ (cacheM (d.put A B q)) rfl (fun k x hx => (hin k x hx).1) fun S4 => .done S4 _ rfl rfl ⟨rfl, d.put A B q, rfl, rfl, rfl, rfl, hst⟩)
    rw [slV_none, hw0]
    exact DLe.nil _ _
  | some y =>
    obtain ⟨g0, c0⟩ := y
    have hr0 := cache_row h.ok hmem hr
    obtain ⟨_, _, _, c4⟩ := cache_ne h.ok hmem
    obtain ⟨c5, c6, _⟩ := c4 _ hr
    dsimp only at hr0 c5 c6
    have c7 : g0 ≠ g := fun e => by rw [e, hgn] at hr0; cases hr0
    have hM0 : ∀ X Y Z, (((cacheM d).upd d.cg X).upd g Y).upd d.mg Z g0 = some (.cells 39 (rowC wsE p'.pl.ws p'.rest)) := fun X Y Z => by
      rw [upd_if, if_neg (Ne.symm c6), upd_if, if_neg c7, upd_if, if_neg (Ne.symm c5), hr0]
    refine .thw (d' := .tup [wsR p'.pl.ws, boolD true]) _ _ g0 _ rfl (hM0 _ _ _) (fun C v hok hat hv => ws_thaw hok hat hv) fun S4 => ?_
    refine .drp _ _ (cacheM (d.put A B q)) rfl (fun k x hx => ?_) fun S5 => .done S5 _ rfl rfl ⟨rfl, d.put A B q, rfl, rfl, rfl, rfl, hst⟩
    obtain ⟨h1, h2⟩ := hin k x hx
    exact (upd_if _ _ _ _).trans ((if_neg (h2 _ hr)).trans h1)
set_option maxHeartbeats 16000000 in
theorem learn_new (d : CDat) (T : List Pl) (h : CStand d T) (k : Int × Int) (hk : keyW k) (hno : ∀ p ∈ d.L, p.pl.key ≠ k) (m : Nat → Int) (add : Bool) (hn : 0 ≤ d.now ∧ d.now ≤ 2000000000) :
    ArC Try.prog 31 [ptrD d.cg, .agg (plC k), .agg (macC m), boolD add] (cacheM d) fun r M => r = .tup [wsR (learnT d.c d.now T k m add).1.1, boolD (learnT d.c d.now T k m add).1.2] ∧ ∃ d', M = cacheM d' ∧ d'.cg = d.cg ∧ d'.c = d.c ∧ d'.now = d.now ∧ CStand d' (learnT d.c d.now T k m add).2 := by
  refine arOf [] Try.func31 rfl (by kernel_rfl) (Nat.le_of_ble_eq_true rfl) fun S => ?_
  have hg := get_ar d h.ok k hk
  obtain ⟨lk, hlk⟩ := place_key k hk
  have hh := cache_hdr (d := d)
  have hm := cache_map h.ok
  have hL := ent_keys h.ok
  have hll := h.len
  have hdue := due_fn d (d.c 29) hn
  unfold learnT
  rw [h.none hno]
  dsimp only
  conv => whnf
  refine CallVC.ar (i := 0) hg rfl rfl ?_
  rintro _ _ S1 ⟨rfl, (⟨_, rfl⟩ | ⟨p', hp', hpk, rfl⟩)⟩
  rotate_left
  · exact absurd hpk (hno p' hp')
  conv => whnf
  (refine pv_isNil (b := false) ttH rfl rfl rfl (.inl ⟨rfl, rfl⟩) ?_; conv => whnf)
  cases add with
  | false =>
    conv => whnf
    exact .le (d' := .tup [wsR [], boolD false]) (DLe.tup2 (DLe.nil _ _)) (.done _ _ rfl rfl ⟨rfl, d, rfl, rfl, rfl, rfl, h⟩)
  | true =>
    conv => whnf
    (refine pv_nil rfl ?_; (conv => whnf); refine pv_field ttH rfl rfl rfl ?_; conv => whnf)
    (refine pv_loadA (i := 0) ttH rfl rfl rfl (hh) rfl ?_; conv => whnf)
    refine pv_mapLen (i := 0) ttH rfl rfl rfl rfl hm ?_
    rw [show (d.L.map entP).toArray.size = T.length by rw [← hll]; simp]
    conv => whnf
    (refine pv_nil rfl ?_; (conv => whnf); refine pv_field ttH rfl rfl rfl ?_; conv => whnf)
    (refine pv_field ttH rfl rfl rfl ?_; conv => whnf)
    (refine pv_loadA (i := 0) ttH rfl rfl rfl (hh) rfl ?_; conv => whnf)
    cases hq2 : decide ((T.length : Int) ≥ d.c 27) with
    | true =>
      conv => whnf
      exact .le (d' := .tup [wsR [], boolD false]) (DLe.tup2 (DLe.nil _ _)) (.done _ _ rfl rfl ⟨rfl, d, rfl, rfl, rfl, rfl, h⟩)
    | false =>
      conv => whnf
      (refine pv_nil rfl ?_; (conv => whnf); refine pv_field ttH rfl rfl rfl ?_; conv => whnf)
      (refine pv_loadA (i := 0) ttH rfl rfl rfl (hh) rfl ?_; conv => whnf)
      (refine pv_nil rfl ?_; (conv => whnf); refine pv_field ttH rfl rfl rfl ?_; conv => whnf)
      (refine pv_field ttH rfl rfl rfl ?_; conv => whnf)
      (refine pv_loadA (i := 0) ttH rfl rfl rfl (hh) rfl ?_; conv => whnf)
      refine CallVC.lookA (i := 0) hdue rfl rfl (conv_fp hh) ?_
      rintro _ rfl
      conv => whnf
      refine op_absorb (i := 0) (j := 3) rfl rfl rfl fun g S2 hgn => ?_
      have nmg : d.mg ≠ g := fun e => by rw [e, hgn] at hm; cases hm
      have ncg : d.cg ≠ g := fun e => by rw [e, hgn] at hh; cases hh
      have ncm : d.cg ≠ d.mg := fun e => by rw [e, hm] at hh; cases hh
      have hm1 : ∀ X, (cacheM d).upd g X d.mg = some (.ob (mapO d)) := fun X => by rw [upd_if, if_neg nmg, hm]
      refine op_setMapA (i := 0) (L := d.L.map entP) (vs := [.int .i64 k.1, .int .u32 k.2]) (u := .pointer (some ⟨g, 0, none⟩)) rfl Try.underlying106 place_law rfl rfl rfl rfl (hm1 _) hlk hL (fun _ => ?_) (fun j e he hek => ?_)
      rotate_left
      · obtain ⟨p, hp, rfl⟩ := List.mem_map.1 (List.mem_of_getElem? he)
        exact absurd (placeV_inj (k := p.pl.key) (k' := k) hek) (hno p hp)
      obtain ⟨q, hqq⟩ : ∃ q : Pr, q = ⟨⟨k.1, k.2, true, m, 0, d.now + clampW (d.c 29), []⟩, d.clk, g, none, []⟩ := ⟨_, rfl⟩
      have hq0 : q.pl = ⟨k.1, k.2, true, m, 0, d.now + clampW (d.c 29), []⟩ := by rw [hqq]
      have hqk : q.pl.key = k := by rw [hq0]; rfl
      have hqg : q.g = g := by rw [hqq]
      have hqr : q.row = none := by rw [hqq]
      have hqb : q.born = d.clk := by rw [hqq]
      have hqo : PrOk q := ⟨fun _ => (by rw [hq0]), fun x hx => (by rw [hqr] at hx; cases hx), by rw [hqk]; exact hk⟩
      have hqn : ∀ p ∈ d.L, p.pl.key ≠ q.pl.key := fun p hp => by rw [hqk]; exact hno p hp
      have hmap := map_add (d := d) (q := q) hqb
      have hwq : waitsL (d.add q).L = waitsL d.L := by rw [waitsL_add, hq0]; rfl
      have hhd : hdrC (d.add q) = hdrC d := by
        unfold hdrC
        rw [hwq]
        rfl
      have hprq : prC q = [boolD true, u8D (m 0), u8D (m 1), u8D (m 2), u8D (m 3), u8D (m 4), u8D (m 5), intD 0, intD (d.now + clampW (d.c 29)), .v (.slice none 0 0)] := by
        unfold prC
        rw [hq0, hqr]
        show [_, _, _, _, _, _, _, _, _, D.v (slV none 0)] = _
        rw [slV_none]
      obtain ⟨hcok, hM'⟩ := add_pr (M' := ((cacheM d).upd g (some (.cells 117 (prC q)))).upd d.mg (some (.ob (mapO (d.add q))))) h.ok (q := q) (by rw [hqg]; exact hgn) (fun x hx => by rw [hqr] at hx; cases hx) hqb hqn hqo (fun k' => by
        rw [hqr, hqg, hhd]
        show _ = if _ then _ else if _ then _ else ((cacheM d).upd d.mg _) k'
        simp only [upd_if]
        by_cases e1 : k' = d.cg
        · subst e1; simp [ncg, ncm, hh]
        by_cases e2 : k' = g
        · subst e2; simp [Ne.symm nmg, e1]
        · simp [e1, e2])
      rw [hmap, hprq] at hM'
      have hst := add_stand h hqn hcok
      rw [hq0] at hst
      have hpl0 : q.pl.nic = k.1 ∧ q.pl.next = k.2 := by rw [hq0]; exact ⟨rfl, rfl⟩
      rw [hpl0.1, hpl0.2, hqg] at hM'
      unfold placeV at hM'
      conv => whnf
      exact .le (d' := .tup [wsR [], boolD true]) (DLe.tup2 (DLe.nil _ _)) (.done _ _ rfl rfl ⟨rfl, d.add q, hM', rfl, rfl, rfl, hst⟩)
end Go.Proofs.Ytfepckbhnghpeaa.V
namespace Go.Proofs.Ytfepckbhnghpeaa
open Go.RowKit Go.Shelf Go.Maps
attribute [local go_sem] Oper.semAt_some

abbrev allFc : Fence := { fn := fun _ => True }
theorem nodup_map {α β : Type} (f : α → β) : ∀ {l : List α}, (l.map f).Nodup → l.Nodup
  | [], _ => List.nodup_nil
  | x :: r, h => by
    rw [List.map_cons, List.nodup_cons] at h
    exact List.nodup_cons.2 ⟨fun hx => h.1 (List.mem_map_of_mem hx), nodup_map f h.2⟩
open Classical in
theorem nodup_le {α : Type} : ∀ {l l' : List α}, l.Nodup → (∀ x ∈ l, x ∈ l') → l.length ≤ l'.length
  | [], _, _, _ => Nat.zero_le _
  | x :: r, l', hn, hs => by
    rw [List.nodup_cons] at hn
    have h1 := (List.perm_cons_erase (hs x List.mem_cons_self)).length_eq
    have h2 := nodup_le (l' := l'.erase x) hn.2 fun y hy => (List.mem_erase_of_ne (fun (e : y = x) => hn.1 (by rw [← e]; exact hy))).2 (hs y (List.mem_cons_of_mem _ hy))
    rw [h1, List.length_cons, List.length_cons]
    omega
structure WalkAt (es : List MapEntry) (clk b r : Nat) (vis : List MapEntry) (W : World) : Prop where
  map : W.heap[b]? = some (.map es.toArray clk)
  iter : ∃ c0, clk ≤ c0 ∧ W.heap[r]? = some (.mapIter (some b) clk (vis.map (·.born)).toArray c0)
  sub : ∀ e ∈ vis, e ∈ es
  nodup : (vis.map (·.born)).Nodup
theorem WalkAt.perm {es : List MapEntry} {clk b r : Nat} {vis : List MapEntry} {W : World} (h : WalkAt es clk b r vis W) (hb : (es.map (·.born)).Nodup) (h0 : (leftOf es.toArray (vis.map (·.born)).toArray).size = 0) : vis.Perm es := by
  have hn : vis.Nodup := nodup_map _ h.nodup
  have hn2 : es.Nodup := nodup_map _ hb
  refine (List.perm_ext_iff_of_nodup hn hn2).2 fun e => ⟨h.sub e, fun he => ?_⟩
  have h1 : leftOf es.toArray (vis.map (·.born)).toArray = #[] := Array.eq_empty_of_size_eq_zero h0
  unfold leftOf at h1
  rw [Array.filter_eq_empty_iff] at h1
  have h2 := h1 e (by simpa using he)
  simp only [Bool.not_eq_true', Bool.not_eq_false, Array.contains_iff_mem, List.mem_toArray] at h2
  have h2 : e.born ∈ vis.map (·.born) := by simpa using h2
  obtain ⟨e2, h3, h4⟩ := List.mem_map.1 h2
  have h5 : ∀ {l : List MapEntry}, (l.map (·.born)).Nodup → ∀ x ∈ l, ∀ y ∈ l, x.born = y.born → x = y := by
    intro l
    induction l with
    | nil => intro _ x hx; cases hx
    | cons a l ih =>
      intro hn x hx y hy e
      rw [List.map_cons, List.nodup_cons] at hn
      rcases List.mem_cons.1 hx with e1 | hx2 <;> rcases List.mem_cons.1 hy with e2 | hy2
      · rw [e1, e2]
      · exact absurd (List.mem_map.2 ⟨y, hy2, by rw [← e, e1]⟩) hn.1
      · exact absurd (List.mem_map.2 ⟨x, hx2, by rw [e, e2]⟩) hn.1
      · exact ih hn.2 x hx2 y hy2 e
  rw [h5 hb e he e2 (h.sub e2 h3) h4.symm]
  exact h3
theorem WalkAt.keeps {es : List MapEntry} {clk b r : Nat} {vis : List MapEntry} {W W' : World} (h : WalkAt es clk b r vis W) (hk : KeepsWalks W W') : WalkAt es clk b r vis W' := by
  obtain ⟨c0, h1, h2⟩ := h.iter
  exact ⟨hk.same b _ h.map rfl, ⟨c0, h1, hk.same r _ h2 rfl⟩, h.sub, h.nodup⟩
def leftN (n r : Nat) (W : World) : Nat := match W.heap[r]? with
  | some (.mapIter _ _ seen _) => n - seen.size
  | _ => 0
theorem grownBy_setAt {W : World} {r : Nat} {o : Obj} (o' : Obj) (_ : W.heap[r]? = some o) : W.grownBy (ChangeMaps.setBlock W r o') (some r) := by
  refine ⟨rfl, rfl, rfl, by simp [ChangeMaps.setBlock], fun k _ hk => ?_⟩
  show (W.heap.setIfInBounds r o')[k]? = _
  rw [Array.getElem?_setIfInBounds, if_neg (fun e => hk (by rw [e]))]
section
variable {F : Fence} {n : Nat} {P : Program} {ops : Array Oper} {rest : List Oper} {o : Oper} {a : Act} {Q : Exit → Act → World → Prop} {w : World}
theorem wpListIn_next_at (hg : o.guard = none) (it : Operand) (hop : o.op = Op.next it false) (es : List MapEntry) (clk b r : Nat) (vis : List MapEntry) (hborn : ∀ e ∈ es, e.born < clk) (hit : a.eval it = .pointer (some ⟨r, 0, none⟩)) (h : WalkAt es clk b r vis w)
    (hDone : (leftOf es.toArray (vis.map (·.born)).toArray).size = 0 → wpListIn F n P ops Q rest (a.put o.dst (.tuple #[.bool false])) w)
    (hMore : ∀ (e : MapEntry) (w' : World), e ∈ es → e.born ∉ vis.map (·.born) → WalkAt es clk b r (vis ++ [e]) w' → (∃ o, w.heap[r]? = some o ∧ o.isWalk = true) → w.grownBy w' (some r) → leftN es.length r w' < leftN es.length r w → (Instr.entry (.pointer (some ⟨r, 0, none⟩))).run P w' = .ok (.tuple #[e.key, e.val]) w' → wpListIn F n P ops Q rest (a.put o.dst (.tuple #[.bool true, e.key, e.val])) w') :
    (es.map (·.born)).Nodup → wpListIn F n P ops Q (o :: rest) a w := by
  intro hnd
  obtain ⟨c0, hc, hr⟩ := h.iter
  refine wpListIn_plain hg fun K' hK' => ?_
  unfold Oper.wpIn
  refine ⟨by simp [Oper.about, hop], ?_⟩
  rw [Oper.semAt_plain F _ _ (by rw [hop]; intro c hc'; cases hc')]
  rcases run_next_at (P := P) w o.type r b clk c0 _ es.toArray clk hr h.map (fun x hx => hborn x (by simpa using hx)) hc with ⟨h0, hrun⟩ | ⟨e, he, w1, hw1, hrun⟩
  · simp [execOp, hop, hit, hrun, Result.andThen]
    exact hK' _ _ (hDone h0)
  · have hseen : (vis.map (·.born)).toArray.push e.born = ((vis ++ [e]).map (·.born)).toArray := by simp
    have hpush : (vis.map (·.born)).toArray.push e.born = ((vis ++ [e]).map (·.born)).toArray := hseen
    obtain ⟨sn, hsn⟩ : ∃ sn, sn = (vis.map (·.born)).toArray.push e.born := ⟨_, rfl⟩
    rw [← hsn] at hrun hseen
    simp [execOp, hop, hit, hrun, Result.andThen]
    refine hK' _ _ ?_
    unfold leftOf at he
    have he1 : e ∈ es ∧ e.born ∉ vis.map (·.born) := by
      simp only [Array.toList_filter, List.mem_filter, Bool.not_eq_true'] at he
      refine ⟨by simpa using he.1, fun hin => ?_⟩
      have h3 : (vis.map (·.born)).toArray.contains e.born = true := Array.contains_iff_mem.2 (by simpa using hin)
      have := he.2
      rw [h3] at this
      cases this
    have hr1 : w1.heap[r]? = some (.mapIter (some b) clk (vis.map (·.born)).toArray c0) := by rcases hw1 with rfl | rfl <;> exact hr
    have hb1 : w1.heap[b]? = some (.map es.toArray clk) := by rcases hw1 with rfl | rfl <;> exact h.map
    have hrb : r ≠ b := fun e => by rw [e, hb1] at hr1; cases hr1
    have hlt : r < w1.heap.size := (Array.getElem?_eq_some_iff.1 hr1).1
    have hg1 := grownBy_setAt (.mapIter (some b) clk sn clk) hr1
    have hset : (ChangeMaps.setBlock w1 r (.mapIter (some b) clk sn clk)).heap[r]? = some (.mapIter (some b) clk ((vis ++ [e]).map (·.born)).toArray clk) := by
      rw [← hseen]
      show (w1.heap.setIfInBounds r _)[r]? = _
      simp [hlt]
    have hat : WalkAt es clk b r (vis ++ [e]) (ChangeMaps.setBlock w1 r (.mapIter (some b) clk sn clk)) := by
      refine ⟨(hg1.block b (Array.getElem?_eq_some_iff.1 hb1).1 (fun e => hrb (by injection e with e; exact e.symm))).trans hb1, ⟨clk, Nat.le_refl _, hset⟩, fun x hx => ?_, ?_⟩
      · rcases List.mem_append.1 hx with hx | hx
        · exact h.sub x hx
        · rw [List.mem_singleton.1 hx]; exact he1.1
      · rw [List.map_append, List.nodup_append]
        refine ⟨h.nodup, by simp, fun x hx y hy e2 => ?_⟩
        have : y = e.born := by simpa using hy
        rw [e2, this] at hx
        exact he1.2 hx
    have hlen : vis.length < es.length := by
      have hsub : (vis ++ [e]).length ≤ es.length := by
        exact nodup_le (nodup_map _ hat.nodup) hat.sub
      simp at hsub
      omega
    refine hMore e _ he1.1 he1.2 hat ⟨_, hr, rfl⟩ ?_ ?_ (run_entry_at (P := P) _ r b clk (vis.map (·.born)).toArray es.toArray clk e (by rw [hpush]; exact hset) hat.map (by simpa using he1.1) (by simpa using hnd))
    · rcases hw1 with rfl | rfl
      · exact hg1
      · exact ⟨hg1.os, hg1.tape, hg1.output, hg1.size, hg1.block⟩
    · unfold leftN
      rw [hset, hr]
      simp
      omega
end
set_option maxRecDepth 100000 in
set_option maxHeartbeats 2000000 in
theorem keysPl_in (n l Bm b clk : Nat) (hn : 1 ≤ n) (es : List MapEntry) (hborn : ∀ e ∈ es, e.born < clk) (hnd : (es.map (·.born)).Nodup) (hkey : ∀ e ∈ es, ∃ x y, e.key = .agg #[.int .i64 x, .int .u32 y]) (J : List Value → World → Prop) (W : World) (hJ : AbidesFrom W.heap.size J)
    (hY : ∀ pre x W, J pre W → pre.length < es.length → (∃ e ∈ es, e.key = x) → YieldAt allFc (n - 1) Try.prog l #[x] W fun e W' => e = .returned (.bool true) ∧ J (pre ++ [x]) W' ∧ KeepsWalks W W')
    (hm : W.cell? ⟨Bm, 0, none⟩ = some (.map (some b))) (hb : W.heap[b]? = some (.map es.toArray clk)) (h0 : J [] W) :
    CallsIn allFc n Try.prog 79 #[.func (.yield l) #[] #[], .pointer (some ⟨Bm, 0, none⟩)] W fun e W' => (∃ v, e = .returned v) ∧ ∃ vis : List MapEntry, vis.Perm es ∧ J (vis.map (·.key)) W' := by
  refine callsIn_of_wp Try.func79 rfl trivial ?_ rfl
  simp only [Try.ntmps79, List.size_toArray, List.length_cons, List.length_nil, Nat.reduceAdd, Nat.reduceSub, Array.replicate_succ, Array.replicate_zero, List.push_toArray, List.append_toArray, List.nil_append, List.cons_append]
  have hrg := run_range_map (P := Try.prog) W 106 _ _ b es.toArray clk Try.underlying106 hb
  have hbl : b < W.heap.size := (Array.getElem?_eq_some_iff.1 hb).1
  gi_wp2
  have hstart : WalkAt es clk b W.heap.size [] (W.alloc (.mapIter (some b) clk #[] clk)) := ⟨(Below.heap_alloc _ _ b hbl).trans hb, ⟨clk, Nat.le_refl _, Go.heap_alloc_new W _⟩, (fun e he => by cases he), List.nodup_nil⟩
  have hJ0 : J [] (W.alloc (.mapIter (some b) clk #[] clk)) := hJ [] W _ none h0 ⟨rfl, rfl, rfl, by simp, fun k hk _ => Below.heap_alloc W _ k hk⟩ (fun r e => by cases e)
  obtain ⟨W2, hW2⟩ : ∃ W2, W.alloc (.mapIter (some b) clk #[] clk) = W2 := ⟨_, rfl⟩
  rw [hW2] at hstart hJ0 ⊢
  clear hrg hW2
  gi_loopw [3] (fun _ wr => ∃ vis : List MapEntry, WalkAt es clk b W.heap.size vis wr ∧ J (vis.map (·.key)) wr) (fun _ wr => leftN es.length W.heap.size wr)
  case atStart => exact ⟨[], hstart, hJ0⟩
  case round =>
    obtain ⟨vis, hat, hJs⟩ := hrel
    gi_wp2_with (first
      | (gi_at_next; refine wpListIn_next_at rfl _ rfl es clk b W.heap.size vis hborn rfl hat ?_ ?_ hnd)
      | gi_in)
    · intro hdone
      gi_wp2
      go_end0
      exact ⟨⟨_, rfl⟩, vis, hat.perm hnd (by rw [hdone]; rfl), hJs⟩
    · intro e w2 hes hnew hat2 ow how1 how2 hg2 hlt hen
      have hJ2 : J (vis.map (·.key)) w2 := hJ _ wr w2 (some W.heap.size) hJs hg2 (fun r e => by cases e; exact ⟨Nat.le_refl _, ow, how1, how2⟩)
      obtain ⟨x, y, hk⟩ := hkey e hes
      have hlen : (vis.map (·.key)).length < es.length := by
        have := nodup_le (nodup_map _ hat2.nodup) hat2.sub
        simp at this ⊢
        omega
      rw [hk] at hen
      rw [hk]
      obtain ⟨fn, tmps, assign, body, hy, hR⟩ := hY _ _ (w2.alloc (.cells #[.int .i64 x, .int .u32 y] 78)) (hJ _ w2 _ none hJ2 ⟨rfl, rfl, rfl, by simp, fun k hk _ => Below.heap_alloc w2 _ k hk⟩ (fun r e => by cases e)) hlen ⟨e, hes, hk⟩
      gi_wp2
      refine hR.mono ?_
      rintro e3 W3 ⟨rfl, hJ3, hk3⟩
      gi_wp2
      have hat3 := (hat2.keeps (KeepsWalks.alloc w2 _)).keeps hk3
      have hl3 : leftN es.length W.heap.size W3 = leftN es.length W.heap.size w2 := by
        obtain ⟨c1, _, hi1⟩ := hat2.iter
        obtain ⟨c2, _, hi2⟩ := hat3.iter
        unfold leftN
        rw [hi1, hi2]
      go_roundw
      case rel => exact ⟨vis ++ [e], hat3, by rw [List.map_append, List.map_cons, List.map_nil, hk]; exact hJ3⟩
      case measure => rw [hl3]; exact hlt

/-! ### slices.AppendSeq at places -/
def plAssign : Code := (Code.region 2 #[{ dst := some 5, op := Op.alloc 78, type := 0, pos := "iter.go:51", after := #[], guard := none }, { dst := none, op := Op.store 78 (Operand.tmp 5) (Operand.tmp 7), type := 0, pos := "iter.go:51", after := #[{ on := 0, ground := Ground.data }, { on := 0, ground := Ground.phase }], guard := none }] false)
def plBody : Code := (Code.block 1 (Code.region 3 #[{ dst := some 8, op := Op.load 93 (Operand.tmp 2), type := 93, pos := "iter.go:52", after := #[], guard := none }, { dst := some 9, op := Op.load 78 (Operand.tmp 5), type := 78, pos := "iter.go:52", after := #[], guard := none },
  { dst := some 10, op := Op.buildSlice 93 1 #[(0, Operand.tmp 9)], type := 93, pos := "iter.go:52", after := #[{ on := 1, ground := Ground.data }], guard := none },
  { dst := some 11, op := Op.call { callee := Callee.builtin Builtin.append, args := #[Operand.tmp 8, Operand.tmp 10], argTypes := #[93, 93] }, type := 93, pos := "iter.go:52", after := #[{ on := 0, ground := Ground.data }, { on := 2, ground := Ground.data }], guard := none },
  { dst := none, op := Op.store 93 (Operand.tmp 2) (Operand.tmp 11), type := 0, pos := "iter.go:52", after := #[{ on := 3, ground := Ground.data }, { on := 3, ground := Ground.chain }, { on := 0, ground := Ground.phase }, { on := 1, ground := Ground.phase }, { on := 2, ground := Ground.phase }, { on := 3, ground := Ground.phase }], guard := none }] false))
def plRec (fn : FuncId) (sv : Value) (Bs D : Nat) (st : LoopState) (pend : Option Code) : Loop :=
  { state := st, pending := pend, fn, tmps := #[.slice none 0 0, sv, .pointer (some ⟨Bs, 0, none⟩), undef, .slice none 0 0, undef, sv, undef, undef, undef, undef, undef, undef], params := #[7], assign := plAssign, body := plBody, defers := D }
def plV (x : Int × Int) : Value := .agg #[.int .i64 x.1, .int .u32 x.2]
def plCells (L : List (Int × Int)) : List Value := L.flatMap fun x => [.int .i64 x.1, .int .u32 x.2]
structure PlAt (w0 : World) (fn : FuncId) (sv : Value) (Bs l D : Nat) (ss : List Value) (W : World) : Prop where
  box : ∃ v xs, ss = xs.map plV ∧ W.heap[Bs]? = some (.cells #[v] 93 (0, 0)) ∧ W.ownsRow w0.heap.size 78 2 v xs.length (plCells xs)
  L : W.heap[l]? = some (.loop (plRec fn sv Bs D .ready none))
  K : W.heap[D]? = some (.deferred (some []))
  below : Below w0.heap.size w0 W
theorem plRow_keeps {W W' : World} {row : Option Nat} {base : Nat} {e : TypeId} {size : Nat} {v : Value} {k : Nat} {xs : List Value} (h : W.ownsRow base e size v k xs) (hg : W.grownBy W' row)
    (hrow : ∀ r, row = some r → ∃ o : Obj, W.heap[r]? = some o ∧ o.isWalk = true) : W'.ownsRow base e size v k xs := by
  refine h.kept hg ?_
  rcases h.2 with ⟨rfl, _⟩ | ⟨g, cap, cur, rfl, _, hgb, _⟩
  · exact .inl rfl
  · refine .inr fun e' => ?_
    obtain ⟨o, ho, hw⟩ := hrow g (by simpa [Value.ownBlock] using e'.symm)
    rw [hgb] at ho; cases ho; cases hw
theorem plAt_abides (w0 : World) (fn : FuncId) (sv : Value) (Bs l D B : Nat) (hB : w0.heap.size ≤ B) : AbidesFrom B (PlAt w0 fn sv Bs l D) := fun s W W' row h hg hrow => by
  have hrow' : ∀ r, row = some r → ∃ o : Obj, W.heap[r]? = some o ∧ o.isWalk = true := fun r e => (hrow r e).2
  obtain ⟨v, xs, hs, hv, hr⟩ := h.box
  exact ⟨⟨v, xs, hs, (grownBy_keeps hg hrow' hv rfl).trans hv, plRow_keeps hr hg hrow'⟩, (grownBy_keeps hg hrow' h.L rfl).trans h.L, (grownBy_keeps hg hrow' h.K rfl).trans h.K, h.below.grown hg h.below.size (fun k e => Nat.le_trans hB (hrow k e).1)⟩
theorem plPut (W : World) (l : Nat) (o : Obj) : W.grownBy (W.putObj l o) (some l) := ⟨rfl, rfl, rfl, by simp, fun k _ hk => World.putObj_heap_other (fun e => hk (by rw [e]))⟩
theorem plSet (W : World) (b : Nat) (v : Value) : W.grownBy (W.setCell ⟨b, 0, none⟩ v) (some b) := ⟨rfl, rfl, rfl, (KeepsWalks.setCell W _ v).size, fun k _ hk => Below.heap_setCell _ _ _ k (fun e => hk (by rw [e]))⟩
theorem plRow_ne {W : World} {base : Nat} {e : TypeId} {size : Nat} {v : Value} {k : Nat} {xs : List Value} (h : W.ownsRow base e size v k xs) {j : Nat} {o : Obj} (hj : W.heap[j]? = some o) (hno : ∀ cur, o ≠ .cells cur e (0, 0)) : v.ownBlock = none ∨ v.ownBlock ≠ some j := by
  rcases h.2 with ⟨rfl, _⟩ | ⟨g, cap, cur, rfl, _, hgb, _⟩
  · exact .inl rfl
  · refine .inr fun e' => ?_
    have : g = j := by simpa [Value.ownBlock] using e'
    subst this; rw [hgb] at hj; cases hj; exact hno cur rfl
theorem plBox {W : World} {B : Nat} {v : Value} {t : TypeId} (h : W.heap[B]? = some (.cells #[v] t (0, 0))) : W.cell? ⟨B, 0, none⟩ = some v ∧ W.frozen? ⟨B, 0, none⟩ = false := by
  constructor <;> simp [World.cell?, World.frozen?, h]
theorem plBoxSet {W : World} {B : Nat} {v : Value} {t : TypeId} (v' : Value) (h : W.heap[B]? = some (.cells #[v] t (0, 0))) : (W.setCell ⟨B, 0, none⟩ v').heap[B]? = some (.cells #[v'] t (0, 0)) := by
  obtain ⟨hlt, hk⟩ := Array.getElem?_eq_some_iff.1 h
  show (W.heap.modify B _)[B]? = _
  rw [Array.getElem?_eq_getElem (by rw [Array.size_modify]; exact hlt), Array.getElem_modify_self, hk]
  rfl
theorem plRow_walk {W : World} {base : Nat} {e : TypeId} {size : Nat} {v : Value} {k : Nat} {xs : List Value} (h : W.ownsRow base e size v k xs) : ∀ (j : Nat) (o : Obj), v.ownBlock = some j → W.heap[j]? = some o → o.isWalk = false := by
  intro j o hj ho
  rcases h.2 with ⟨rfl, _⟩ | ⟨g, cap, cur, rfl, _, hgb, _⟩
  · simp [Value.ownBlock] at hj
  · have : g = j := by simpa [Value.ownBlock] using hj
    subst this; rw [hgb] at ho; cases ho; rfl
theorem plInfo : ∃ i z, Try.prog.info? 78 = some i ∧ i.zero = some z ∧ i.size = 2 ∧ i.bytes = 16 ∧ z.cells.size = 2 := by
  have h : ((Try.prog.info? 78).map fun i => (i.zero.map fun z => z.cells.size, i.size, i.bytes)) = some (some 2, 2, 16) := by kernel_rfl
  cases hi : Try.prog.info? 78 with
  | none => rw [hi] at h; cases h
  | some i =>
    rw [hi] at h
    simp only [Option.map_some, Option.some.injEq, Prod.mk.injEq] at h
    obtain ⟨h1, h2, h3⟩ := h
    cases hz : i.zero with
    | none => rw [hz] at h1; cases h1
    | some z =>
      rw [hz] at h1
      exact ⟨i, z, rfl, hz, h2, h3, by simpa using h1⟩
set_option maxRecDepth 100000 in
set_option maxHeartbeats 4000000 in
theorem plYield (m : Nat) (w0 : World) (fn : FuncId) (sv : Value) (Bs l D : Nat) (hBl : Bs ≠ l) (hDl : D ≠ l) (hDB : D ≠ Bs) (h0B : w0.heap.size ≤ Bs) (h0l : w0.heap.size ≤ l)
    (N : Nat) (hN : N ≤ 1000000) (ss : List Value) (x : Int × Int) (W : World) (h : PlAt w0 fn sv Bs l D ss W) (hlen : ss.length < N) :
    YieldAt allFc m Try.prog l #[plV x] W fun e W' => e = .returned (.bool true) ∧ PlAt w0 fn sv Bs l D (ss ++ [plV x]) W' ∧ KeepsWalks W W' := by
  obtain ⟨i0, z0, hi, hz0, hz1, hz2, hz3⟩ := plInfo
  have u51 := Try.underlying93
  obtain ⟨v, xs, hss, hv, hrow⟩ := h.box
  have hxl : xs.length < N := by rw [hss] at hlen; simpa using hlen
  refine ⟨fn, #[.slice none 0 0, sv, .pointer (some ⟨Bs, 0, none⟩), undef, .slice none 0 0, undef, sv, plV x, undef, undef, undef, undef, undef], plAssign, plBody, by simpa [plRec] using run_yield (P := Try.prog) (args := #[plV x]) h.L rfl, roundIn_of_wpIn trivial ?_⟩
  have hl0 : l < W.heap.size := (Array.getElem?_eq_some_iff.1 h.L).1
  have hB0 : Bs < W.heap.size := (Array.getElem?_eq_some_iff.1 hv).1
  have hD0 : D < W.heap.size := (Array.getElem?_eq_some_iff.1 h.K).1
  -- the element's box
  obtain ⟨Wb, hWb⟩ : ∃ Wb, W.alloc (.cells #[.int .i64 x.1, .int .u32 x.2] 78) = Wb := ⟨_, rfl⟩
  have hbg : W.grownBy Wb none := by rw [← hWb]; exact ⟨rfl, rfl, rfl, by simp, fun k hk _ => Below.heap_alloc W _ k hk⟩
  have hkb : KeepsWalks W Wb := by rw [← hWb]; exact KeepsWalks.alloc _ _
  have hbsz : Wb.heap.size = W.heap.size + 1 := by rw [← hWb]; simp
  have hve : Wb.heap[Bs]? = some (.cells #[v] 93 (0, 0)) := (hbg.block Bs hB0 (by simp)).trans hv
  have hLe : Wb.heap[l]? = some (.loop (plRec fn sv Bs D .ready none)) := (hbg.block l hl0 (by simp)).trans h.L
  have hKe : Wb.heap[D]? = some (.deferred (some [])) := (hbg.block D hD0 (by simp)).trans h.K
  have hrowe : Wb.ownsRow w0.heap.size 78 2 v xs.length (plCells xs) := by rw [← hWb]; exact hrow.alloc _
  have hbe : Below w0.heap.size w0 Wb := h.below.grown hbg h.below.size (fun k e => by cases e)
  have hbox : Wb.heap[W.heap.size]? = some (.cells #[.int .i64 x.1, .int .u32 x.2] 78 (0, 0)) := by rw [← hWb]; exact Go.heap_alloc_new W _
  have hbr := run_beginRound (P := Try.prog) hLe rfl
  obtain ⟨W2, hW2⟩ : ∃ W2, Wb.putObj l (.loop { plRec fn sv Bs D .ready none with state := .busy }) = W2 := ⟨_, rfl⟩
  rw [hW2] at hbr
  have hg2 : Wb.grownBy W2 (some l) := by rw [← hW2]; exact plPut _ _ _
  have hk2 : KeepsWalks Wb W2 := by rw [← hW2]; exact KeepsWalks.putObj _ hLe rfl
  have hs2 : W2.heap.size = W.heap.size + 1 := by rw [← hW2, ← hbsz]; simp
  have hv2 : W2.heap[Bs]? = some (.cells #[v] 93 (0, 0)) := by rw [← hW2]; exact (World.putObj_heap_other hBl).trans hve
  have hK2 : W2.heap[D]? = some (.deferred (some [])) := by rw [← hW2]; exact (World.putObj_heap_other hDl).trans hKe
  have hL2 : W2.heap[l]? = some (.loop { plRec fn sv Bs D .ready none with state := .busy }) := by rw [← hW2]; exact World.putObj_heap_same (by omega)
  have hbx2 : W2.heap[W.heap.size]? = some (.cells #[.int .i64 x.1, .int .u32 x.2] 78 (0, 0)) := by rw [← hW2]; exact (World.putObj_heap_other (by omega)).trans hbox
  have hrow2 : W2.ownsRow w0.heap.size 78 2 v xs.length (plCells xs) := hrowe.kept hg2 (plRow_ne hrowe hLe (fun cur e => by cases e))
  have hb2 : Below w0.heap.size w0 W2 := hbe.grown hg2 hbe.size (fun k e => by cases e; exact h0l)
  have hBlt : Bs < W2.heap.size := (Array.getElem?_eq_some_iff.1 hv2).1
  have hl2 : l < W2.heap.size := (Array.getElem?_eq_some_iff.1 hL2).1
  have hDlt : D < W2.heap.size := (Array.getElem?_eq_some_iff.1 hK2).1
  obtain ⟨hc2, hf2⟩ := plBox hv2
  have hcx0 : W2.cell? ⟨W.heap.size, 0, none⟩ = some (.int .i64 x.1) := by simp [World.cell?, hbx2]
  have hcx1 : W2.cell? ⟨W.heap.size, 1, none⟩ = some (.int .u32 x.2) := by simp [World.cell?, hbx2]
  have ne_of : ∀ {j : Nat} {o : Obj}, W2.heap[j]? = some o → (∀ cur, o ≠ .cells cur 78 (0, 0)) → some j ≠ v.ownBlock := fun hj hno => by
    rcases plRow_ne hrow2 hj hno with e | e
    · rw [e]; simp
    · exact fun e' => e e'.symm
  clear hW2 hs2
  unfold plAssign plV
  gi_wp2_with (rw [Oper.semAt_eq _ _ _ (fun c h => by cases h)]; go_simp; try go_bits)
  unfold plBody
  have hcz : ∀ (j : Nat) (u : Value), [Value.int .i64 x.1, Value.int .u32 x.2][j]? = some u → (W2.alloc (.cells #[.int .i64 x.1, .int .u32 x.2] 78)).cell? ((⟨W2.heap.size, 0, none⟩ : Addr).add j) = some u := fun j u hu => by
    have hnew := Go.heap_alloc_new W2 (.cells #[.int .i64 x.1, .int .u32 x.2] 78 (0, 0))
    match j, hu with
    | 0, hu => injection hu with hu; subst hu; show World.cell? _ ⟨W2.heap.size, 0 + 0, none⟩ = _; unfold World.cell?; rw [hnew]; rfl
    | 1, hu => injection hu with hu; subst hu; show World.cell? _ ⟨W2.heap.size, 0 + 1, none⟩ = _; unfold World.cell?; rw [hnew]; rfl
    | j + 2, hu => simp at hu
  gi_wp2_with (first
    | (gi_at_builtin; refine wpListIn_append_own _ rfl _ _ 93 rfl w0.heap.size 78 i0 z0 2 16 u51 hi hz0 hz1 hz2 hz3 (by decide) _ _ _ rfl (hrow2.alloc _) ⟨W2.heap.size, 0, none⟩ 1 1 [.int .i64 x.1, .int .u32 x.2] rfl rfl hcz (by simp [Value.oneCell']) (by simp only [Go.maxLen]; omega) (by omega) (by have := hb2.size; simp; omega) ?_; intro v' w3 hown' hg3 hnil3
       have hv3 : w3.heap[Bs]? = some (.cells #[v] 93 (0, 0)) := (hg3.block Bs (by simp; omega) (ne_of hv2 (fun cur e => by cases e))).trans ((Below.heap_alloc _ _ Bs hBlt).trans hv2)
       obtain ⟨hc3, hf3⟩ := plBox hv3
       obtain ⟨g', cap', cur', rfl, hbase', hgb', hr1, hr2, hr3, hr4⟩ : ∃ g' cap' cur', v' = .slice (some ⟨g', 0, none⟩) (xs.length + 1) cap' ∧ w0.heap.size ≤ g' ∧ w3.heap[g']? = some (.cells cur' 78 (0, 0)) ∧ xs.length + 1 ≤ cap' ∧ cap' ≤ maxLen ∧ cur'.size = cap' * 2 ∧ cur'.toList.take ((xs.length + 1) * 2) = plCells xs ++ [.int .i64 x.1, .int .u32 x.2] := by
         rcases hown'.2 with ⟨_, h0⟩ | h'
         · exact absurd h0 (by omega)
         · exact h'
       go_frame)
    | (rw [Oper.semAt_eq _ _ _ (fun c h => by cases h)]; go_simp; try go_bits))
  have hg3' : (W2.alloc (.cells #[.int .i64 x.1, .int .u32 x.2] 78)).grownBy w3 v.ownBlock := hg3
  have hL3 : w3.heap[l]? = some (.loop { plRec fn sv Bs D .ready none with state := .busy }) := (hg3'.block l (by simp; omega) (ne_of hL2 (fun cur e => by cases e))).trans ((Below.heap_alloc _ _ l hl2).trans hL2)
  have hK3 : w3.heap[D]? = some (.deferred (some [])) := (hg3'.block D (by simp; omega) (ne_of hK2 (fun cur e => by cases e))).trans ((Below.heap_alloc _ _ D hDlt).trans hK2)
  obtain ⟨w4, hw4⟩ : ∃ w4, w3.setCell ⟨Bs, 0, none⟩ (.slice (some ⟨g', 0, none⟩) (xs.length + 1) cap') = w4 := ⟨_, rfl⟩
  rw [hw4]
  have hg4 : w3.grownBy w4 (some Bs) := by rw [← hw4]; exact plSet _ _ _
  have hv4 : w4.heap[Bs]? = some (.cells #[.slice (some ⟨g', 0, none⟩) (xs.length + 1) cap'] 93 (0, 0)) := by rw [← hw4]; exact plBoxSet _ hv3
  have hL4 : w4.heap[l]? = some (.loop { plRec fn sv Bs D .ready none with state := .busy }) := (hg4.block l (Array.getElem?_eq_some_iff.1 hL3).1 (fun e => hBl (by cases e; rfl))).trans hL3
  have hK4 : w4.heap[D]? = some (.deferred (some [])) := (hg4.block D (Array.getElem?_eq_some_iff.1 hK3).1 (fun e => hDB (by cases e; rfl))).trans hK3
  have hrow4 := hown'.kept hg4 (plRow_ne hown' hv3 (fun cur e => by cases e))
  have hl4 : l < w4.heap.size := (Array.getElem?_eq_some_iff.1 hL4).1
  have hb3 : Below w0.heap.size w0 w3 := (hb2.alloc hb2.size _).grown hg3' (by have := hb2.size; simp; omega) (fun k e => (hrow2.lt k e).1)
  have hb4 : Below w0.heap.size w0 w4 := hb3.grown hg4 hb3.size (fun k e => by cases e; exact h0B)
  have hk4 : KeepsWalks W w4 := ((((hkb.trans hk2).trans (KeepsWalks.alloc _ _)).trans (KeepsWalks.of_grownBy hg3' (plRow_walk (hrow2.alloc _))))).trans (by rw [← hw4]; exact KeepsWalks.setCell _ _ _)
  clear hw4
  have hcs : plCells (xs ++ [x]) = plCells xs ++ [.int .i64 x.1, .int .u32 x.2] := by unfold plCells; rw [List.flatMap_append]; rfl
  refine ⟨_, _, run_endRound none hL4, rfl, ⟨⟨_, xs ++ [x], ?_, (World.putObj_heap_other hBl).trans hv4, ?_⟩, World.putObj_heap_same hl4, (World.putObj_heap_other hDl).trans hK4, hb4.grown (plPut _ _ _) hb4.size (fun k e => by cases e; exact h0l)⟩, hk4.trans (KeepsWalks.putObj _ hL4 rfl)⟩
  · rw [List.map_append]; rfl
  · have := hrow4.kept (plPut w4 l (.loop { { plRec fn sv Bs D .ready none with state := .busy } with state := if (none : Option Code).isNone then .ready else .done, pending := none })) (plRow_ne hrow4 hL4 (fun cur e => by cases e))
    rw [hcs]
    simpa using this
end Go.Proofs.Ytfepckbhnghpeaa
namespace Go.Proofs.Ytfepckbhnghpeaa
open Go.RowKit Go.Shelf Go.Maps
attribute [local go_sem] Oper.semAt_some

set_option maxRecDepth 100000 in
set_option maxHeartbeats 4000000 in
theorem appendPl_in (Bm b clk : Nat) (w : World) (hBm : Bm < w.heap.size) (es : List MapEntry) (hes : es.length ≤ 1000000) (hborn : ∀ e ∈ es, e.born < clk) (hnd : (es.map (·.born)).Nodup) (hkey : ∀ e ∈ es, ∃ x y, e.key = .agg #[.int .i64 x, .int .u32 y]) (hm : w.cell? ⟨Bm, 0, none⟩ = some (.map (some b))) (hb : w.heap[b]? = some (.map es.toArray clk)) :
    CallsIn allFc 5 Try.prog 83 #[.slice none 0 0, .func (.func 79) #[] #[.pointer (some ⟨Bm, 0, none⟩)]] w fun e w' =>
      ∃ (v : Value) (xs : List (Int × Int)) (vis : List MapEntry), e = .returned v ∧ vis.Perm es ∧ vis.map (·.key) = xs.map plV ∧ w'.ownsRow w.heap.size 78 2 v xs.length (plCells xs) ∧ Below w.heap.size w w' := by
  refine callsIn_of_wp_marks Try.func83 rfl trivial ?_ rfl
  simp only [Try.ntmps83, List.size_toArray, List.length_cons, List.length_nil, Nat.reduceAdd, Nat.reduceSub, Array.replicate_succ, Array.replicate_zero, List.push_toArray, List.append_toArray, List.nil_append, List.cons_append]
  gi_wp2
  refine wpIn_rangeFunc ?_
  intro fn hfn
  rw [show allFc.round = none from rfl]
  obtain ⟨sv, hsv⟩ : ∃ sv, Value.func (.func 79) #[] #[.pointer (some ⟨Bm, 0, none⟩)] = sv := ⟨_, rfl⟩
  obtain ⟨W0, hW0⟩ : ∃ W0, w.alloc (.cells #[.slice none 0 0] 93) = W0 := ⟨_, rfl⟩
  have hs0 : W0.heap.size = w.heap.size + 1 := by rw [← hW0]; simp
  have hv0 : W0.heap[w.heap.size]? = some (.cells #[.slice none 0 0] 93 (0, 0)) := by rw [← hW0]; exact Go.heap_alloc_new w _
  have hb0 : Below w.heap.size w W0 := by rw [← hW0]; exact (Below.refl _ w).alloc (Nat.le_refl _) _
  have hbl : b < w.heap.size := (Array.getElem?_eq_some_iff.1 hb).1
  rw [hW0]
  obtain ⟨W1, hW1⟩ : ∃ W1, (W0.alloc (.deferred (some []))).alloc (.loop (plRec fn (.func (.func 79) #[] #[.pointer (some ⟨Bm, 0, none⟩)]) w.heap.size W0.heap.size .ready none)) = W1 := ⟨_, rfl⟩
  have hold : ∀ k, k < W0.heap.size → W1.heap[k]? = W0.heap[k]? := fun k hk => by
    rw [← hW1]; exact (Below.heap_alloc _ _ k (by simp; omega)).trans (Below.heap_alloc _ _ k hk)
  have hold0 : ∀ k, k < w.heap.size → W1.heap[k]? = w.heap[k]? := fun k hk => (hold k (by omega)).trans (hb0.block k hk)
  have hb1 : Below w.heap.size w W1 := by rw [← hW1]; exact (hb0.alloc hb0.size _).alloc (by have := hb0.size; simp; omega) _
  have hs1 : W1.heap.size = W0.heap.size + 2 := by rw [← hW1]; simp
  have hM : PlAt w fn (.func (.func 79) #[] #[.pointer (some ⟨Bm, 0, none⟩)]) w.heap.size (W0.heap.size + 1) W0.heap.size [] W1 :=
    ⟨⟨.slice none 0 0, [], rfl, (hold w.heap.size (by omega)).trans hv0, ⟨rfl, .inl ⟨rfl, rfl⟩⟩⟩,
     by rw [← hW1]; have := Go.heap_alloc_new (W0.alloc (.deferred (some []))) (.loop (plRec fn (.func (.func 79) #[] #[.pointer (some ⟨Bm, 0, none⟩)]) w.heap.size W0.heap.size .ready none)); rwa [World.size_alloc] at this,
     by rw [← hW1]; exact (Below.heap_alloc _ _ _ (by simp)).trans (Go.heap_alloc_new W0 _), hb1⟩
  have hen : ∀ args u, (callFunc 79 args).run Try.prog u = .ok (.enter 79 args) u := enters_of Try.func79 (by kernel_rfl) rfl
  refine ⟨W0.heap.size + 1, [{ target := .collected W0.heap.size, args := #[] }], W1, { target := .fn (.func 79) #[.pointer (some ⟨Bm, 0, none⟩)], args := #[.func (.yield (W0.heap.size + 1)) #[] #[]] }, W1, 79,
    #[.func (.yield (W0.heap.size + 1)) #[] #[]] ++ #[.pointer (some ⟨Bm, 0, none⟩)], W1, ?_, ?_, fun _ _ => trivial, ?_, fun _ => by decide, ?_⟩
  · rw [← hW1]; exact run_enterLoop_outer _ _ _ _ _
  · simp [resolve, go_sem]
  · simp [invoke, go_sem, hen]
  · refine (keysPl_in 4 (W0.heap.size + 1) Bm b clk (by decide) es hborn hnd hkey (PlAt w fn (.func (.func 79) #[] #[.pointer (some ⟨Bm, 0, none⟩)]) w.heap.size (W0.heap.size + 1) W0.heap.size) W1 (plAt_abides _ _ _ _ _ _ _ hb1.size)
      (fun pre x W hJ hl hx => ?_) ((World.cell?_of_block (hold0 Bm hBm)).trans hm) ((hold0 b hbl).trans hb) hM).mono ?_
    · obtain ⟨e, he, rfl⟩ := hx
      obtain ⟨x1, x2, hxe⟩ := hkey e he
      rw [hxe]
      exact plYield 3 w fn _ w.heap.size (W0.heap.size + 1) W0.heap.size (by omega) (by omega) (by omega) (Nat.le_refl _) (by omega) es.length hes pre (x1, x2) W hJ hl
    rintro e W2 ⟨⟨v0, rfl⟩, vis, hvis, h2⟩
    obtain ⟨v, xs, hxs, hv, hrow⟩ := h2.box
    have hend := run_endLoop (P := Try.prog) h2.L (by simp [plRec])
    obtain ⟨W3, hW3⟩ : ∃ W3, W2.putObj (W0.heap.size + 1) (.loop { plRec fn (.func (.func 79) #[] #[.pointer (some ⟨Bm, 0, none⟩)]) w.heap.size W0.heap.size .ready none with state := .exhausted }) = W3 := ⟨_, rfl⟩
    rw [hW3] at hend
    have hg3 : W2.grownBy W3 (some (W0.heap.size + 1)) := by rw [← hW3]; exact plPut _ _ _
    have hv3 : W3.heap[w.heap.size]? = some (.cells #[v] 93 (0, 0)) := by rw [← hW3]; exact (World.putObj_heap_other (by omega)).trans hv
    have hK3 : W3.heap[W0.heap.size]? = some (.deferred (some [])) := by rw [← hW3]; exact (World.putObj_heap_other (by omega)).trans h2.K
    have hrow3 := hrow.kept hg3 (plRow_ne hrow h2.L (fun cur e => by cases e))
    have hb3 : Below w.heap.size w W3 := h2.below.grown hg3 h2.below.size (fun k e => by cases e; omega)
    obtain ⟨hc3, hf3⟩ := plBox hv3
    clear hW3
    refine ⟨none, W3, hend, ?_⟩
    gi_wp2
    rw [← hs0]
    refine ⟨by simp, .inl ⟨_, _, rfl, run_takeDeferred hK3, ?_⟩⟩
    exact ⟨_, results_tmp rfl _ _ _, v, xs, vis, rfl, hvis, hxs, hrow3.kept (plPut _ _ _) (plRow_ne hrow3 hK3 (fun cur e => by cases e)), hb3.grown (plPut _ _ _) hb3.size (fun k e => by cases e; omega)⟩
set_option maxRecDepth 100000 in
set_option maxHeartbeats 1000000 in
theorem collectPl_in (Bm b clk : Nat) (w : World) (hBm : Bm < w.heap.size) (es : List MapEntry) (hes : es.length ≤ 1000000) (hborn : ∀ e ∈ es, e.born < clk) (hnd : (es.map (·.born)).Nodup) (hkey : ∀ e ∈ es, ∃ x y, e.key = .agg #[.int .i64 x, .int .u32 y]) (hm : w.cell? ⟨Bm, 0, none⟩ = some (.map (some b))) (hb : w.heap[b]? = some (.map es.toArray clk)) :
    CallsIn allFc 6 Try.prog 77 #[.func (.func 79) #[] #[.pointer (some ⟨Bm, 0, none⟩)]] w fun e w' =>
      ∃ (v : Value) (xs : List (Int × Int)) (vis : List MapEntry), e = .returned v ∧ vis.Perm es ∧ vis.map (·.key) = xs.map plV ∧ w'.ownsRow w.heap.size 78 2 v xs.length (plCells xs) ∧ Below w.heap.size w w' := by
  refine callsIn_of_wp Try.func77 rfl trivial ?_ rfl
  simp only [Try.ntmps77, List.size_toArray, List.length_cons, List.length_nil, Nat.reduceAdd, Nat.reduceSub, Array.replicate_succ, Array.replicate_zero, List.push_toArray, List.append_toArray, List.nil_append, List.cons_append]
  have hen : ∀ args u, (callFunc 83 args).run Try.prog u = .ok (.enter 83 args) u := enters_of Try.func83 (by kernel_rfl) rfl
  gi_wp2_with (gi_at_call 83; refine (appendPl_in Bm b clk _ hBm es hes hborn hnd hkey hm hb).mono ?_; rintro e w' ⟨v, xs, vis, rfl, h1, h2, h3, h4⟩)
  go_ret
  exact ⟨v, xs, vis, rfl, h1, h2, h3, h4⟩
end Go.Proofs.Ytfepckbhnghpeaa
