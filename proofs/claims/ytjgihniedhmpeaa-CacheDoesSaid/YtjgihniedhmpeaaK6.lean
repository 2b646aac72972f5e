/-
  A frame waits for a new place, or is refused: the program's, by value. Conditions: the cache stands right, not too much is known.
  A place is learnt: the program's, by value. Conditions: the cache stands right, not too much is known.
-/
import Derived.Test.YtjgihniedhmpeaaK5
namespace Go.Proofs.Ytjgihniedhmpeaa.V
open Go.RowKit
attribute [local irreducible] Fn FnN OpVC ArC FnR ArL

def CDat.add (d : CDat) (q : Pr) : CDat := { d with L := d.L ++ [q], clk := d.clk + 1 }
theorem updR_if (M : Ar) (row : Option (Nat × Nat)) (x : It) (k : Nat) : updR M row x k = match row with
    | none => M k
    | some g => if k = g.1 then some x else M k := by
  cases row with
  | none => rfl
  | some g => exact upd_if _ _ _ _
theorem add_pr {d : CDat} (h : COk d) {q : Pr} (hg : cacheM d q.g = none) (hrow : ∀ x, q.row = some x → cacheM d x.1 = none ∧ x.1 ≠ q.g) (hb : q.born = d.clk) (hk : ∀ p ∈ d.L, p.pl.key ≠ q.pl.key) (hok : PrOk q)
    {M' : Ar} (hM : ∀ k, M' k = if k = d.cg then some (.cells 71 (hdrC (d.add q))) else if k = q.g then some (.cells 75 (prC q)) else updR ((cacheM d).upd d.mg (some (.ob (mapO (d.add q))))) q.row (.cells 40 (rowC wsE q.pl.ws q.rest)) k) : COk (d.add q) ∧ M' = cacheM (d.add q) := by
  have hcg := cache_hdr (d := d)
  have hmg := cache_map h
  have ne0 : d.cg ≠ d.mg := fun e => by rw [e, hmg] at hcg; cases hcg
  have ne1 : d.cg ≠ q.g := fun e => by rw [e, hg] at hcg; cases hcg
  have ne2 : d.mg ≠ q.g := fun e => by rw [e, hg] at hmg; cases hmg
  have hnd := h.nodup
  have hop := fun k => show cacheM d k = lget (items d) k from rfl
  unfold items at hnd hop
  generalize hR : d.L.flatMap prItems = R at *
  simp only [List.map_cons, List.nodup_cons, List.mem_cons, not_or] at hnd
  obtain ⟨⟨_, r1⟩, r2, r5⟩ := hnd
  have inR : ∀ k, cacheM d k = none → k ∉ R.map (·.1) := fun k hk => by
    rw [hop, lget_cons, lget_cons] at hk
    split at hk
    · cases hk
    · split at hk
      · cases hk
      · exact lget_none.1 hk
  have r3 := inR _ hg
  have hnew : (items (d.add q)).Perm (openI (d.add q) (prItems q) R) := by rw [← hR]; exact items_snoc rfl
  have rk : ∀ x ∈ (d.add q).L, PrOk x := fun x hx => by
    rcases List.mem_append.1 hx with hx | hx
    · exact h.rows x hx
    · rw [List.mem_singleton.1 hx]; exact hok
  have hkeys : ((d.add q).L.map fun p => p.pl.key).Nodup := by
    show ((d.L ++ [q]).map fun p => p.pl.key).Nodup
    rw [List.map_append, List.nodup_append]
    refine ⟨h.keys, by simp, fun a ha b hb e => ?_⟩
    obtain ⟨p, hp, rfl⟩ := List.mem_map.1 ha
    have hb' : b = q.pl.key := by simpa using hb
    exact hk p hp (e.trans hb')
  have hbn : ((d.add q).L.map Pr.born).Nodup := by
    show ((d.L ++ [q]).map Pr.born).Nodup
    rw [List.map_append, List.nodup_append]
    refine ⟨h.born, by simp, fun a ha b hb' e => ?_⟩
    obtain ⟨p, hp, rfl⟩ := List.mem_map.1 ha
    have hb2 : b = q.born := by simpa using hb'
    have := h.bclk p hp
    omega
  have hbc : ∀ x ∈ (d.add q).L, x.born < (d.add q).clk := fun x hx => by
    show x.born < d.clk + 1
    rcases List.mem_append.1 hx with hx | hx
    · exact Nat.lt_succ_of_lt (h.bclk x hx)
    · rw [List.mem_singleton.1 hx]; omega
  cases hr : q.row with
  | none =>
    have hq1 : prItems q = [(q.g, .cells 75 (prC q))] := by unfold prItems prRow; rw [hr]
    have hnd' : ((openI (d.add q) (prItems q) R).map (·.1)).Nodup := by
      unfold openI
      rw [hq1]
      simp only [List.cons_append, List.nil_append, List.map_cons, List.nodup_cons, List.mem_cons, not_or]
      exact ⟨⟨ne0, ne1, r1⟩, ⟨ne2, r2⟩, r3, r5⟩
    refine ⟨⟨(nodup_perm hnew).2 hnd', rk, hkeys, hbn, hbc⟩, cache_is hnew hnd' fun k => ?_⟩
    rw [hM, updR_if, hr, upd_if, hop]
    unfold openI
    rw [hq1]
    simp only [List.cons_append, List.nil_append, lget_cons]
    show (if k = d.cg then _ else _) = if k = d.cg then _ else if k = d.mg then _ else _
    by_cases e1 : k = d.cg
    · simp [e1]
    by_cases e2 : k = d.mg
    · simp [e2, Ne.symm ne0, ne2]
    by_cases e3 : k = q.g
    · simp [e3, Ne.symm ne1, Ne.symm ne2]
    simp [e1, e2, e3]
  | some x =>
    obtain ⟨g1, c1⟩ := x
    obtain ⟨f1, f2⟩ := hrow _ hr
    dsimp only at f1 f2
    have m1 : d.cg ≠ g1 := fun e => by rw [e, f1] at hcg; cases hcg
    have m2 : d.mg ≠ g1 := fun e => by rw [e, f1] at hmg; cases hmg
    have r4 := inR _ f1
    have hq1 : prItems q = [(q.g, .cells 75 (prC q)), (g1, .cells 40 (rowC wsE q.pl.ws q.rest))] := by unfold prItems prRow; rw [hr]
    have hnd' : ((openI (d.add q) (prItems q) R).map (·.1)).Nodup := by
      unfold openI
      rw [hq1]
      simp only [List.cons_append, List.nil_append, List.map_cons, List.nodup_cons, List.mem_cons, not_or]
      exact ⟨⟨ne0, ne1, m1, r1⟩, ⟨ne2, m2, r2⟩, ⟨Ne.symm f2, r3⟩, r4, r5⟩
    refine ⟨⟨(nodup_perm hnew).2 hnd', rk, hkeys, hbn, hbc⟩, cache_is hnew hnd' fun k => ?_⟩
    rw [hM, updR_if, hr, upd_if, hop]
    unfold openI
    rw [hq1]
    simp only [List.cons_append, List.nil_append, lget_cons]
    show (if k = d.cg then _ else _) = if k = d.cg then _ else if k = d.mg then _ else _
    by_cases e1 : k = d.cg
    · simp [e1]
    by_cases e2 : k = d.mg
    · simp [e2, Ne.symm ne0, ne2, m2]
    by_cases e3 : k = q.g
    · simp [e3, Ne.symm ne1, Ne.symm ne2]
    by_cases e4 : k = g1
    · simp [e4, Ne.symm m1, Ne.symm m2, f2]
    simp [e1, e2, e3, e4]
theorem add_stand {d : CDat} {T : List Pl} (h : CStand d T) {q : Pr} (hk : ∀ p ∈ d.L, p.pl.key ≠ q.pl.key) (hok : COk (d.add q)) : CStand (d.add q) (insT q.pl T) := by
  have hq : PrOk q := hok.rows q (by unfold CDat.add; simp)
  refine ⟨hok, ?_, insT_sort hq.2.2.1 h.sort fun y hy => ?_⟩
  · show ((d.L ++ [q]).map Pr.pl).Perm _
    rw [List.map_append]
    exact (List.perm_append_comm.trans ((h.perm.cons q.pl) : ([q].map Pr.pl ++ d.L.map Pr.pl).Perm (q.pl :: T))).trans (insT_perm _ _).symm
  · obtain ⟨p, hp, rfl⟩ := List.mem_map.1 (h.perm.mem_iff.2 hy)
    exact hk p hp
theorem waitsL_add {d : CDat} {q : Pr} : waitsL (d.add q).L = waitsL d.L + q.pl.ws.length := by
  unfold waitsL
  show waitsT ((d.L ++ [q]).map Pr.pl) = _
  rw [List.map_append, waitsT_append]
  simp [waitsT]
theorem map_add {d : CDat} {q : Pr} (hb : q.born = d.clk) : mapO (d.add q) = .map (d.L.map entP ++ [({ key := placeV q.pl.nic q.pl.next, val := .pointer (some ⟨q.g, 0, none⟩), born := d.clk } : MapEntry)]).toArray (d.clk + 1) := by
  unfold mapO
  show Obj.map ((d.L ++ [q]).map entP).toArray (d.clk + 1) = _
  rw [List.map_append]
  simp only [List.map_cons, List.map_nil, entP, hb]

set_option maxHeartbeats 16000000 in
theorem want_no (d : CDat) (T : List Pl) (h : CStand d T) (p : Pr) (hmem : p ∈ d.L) (b : List Nat) (hk : keyW p.pl.key) (hno : p.pl.known = true ∨ (waitsT T : Int) ≥ d.c 28) :
    ArC Try.prog 8 [ptrD d.cg, .agg (plC p.pl.key), octR b] (cacheM d) fun r M => M = cacheM d ∧ r = .tup [boolD false, errD (match p.pl.known with
      | true => 10
      | false => 7)] := by
  refine arOf [] Try.func8 rfl (by kernel_rfl) (Nat.le_of_ble_eq_true rfl) fun S => ?_
  have hg := get_ar d h.ok p.pl.key hk
  have hh := cache_hdr (d := d)
  have hpr := cache_pr h.ok hmem
  have hwl : waitsL d.L = waitsT T := h.waits
  conv => whnf
  (refine pv_isNil (b := false) ttH rfl rfl rfl (.inl ⟨rfl, rfl⟩) ?_; conv => whnf)
  refine CallVC.ar (i := 0) hg rfl rfl ?_
  rintro _ _ S1 ⟨rfl, (⟨hno, _⟩ | ⟨p', hp', hpk, rfl⟩)⟩
  · exact absurd rfl (hno p hmem)
  obtain rfl : p' = p := find_mem h.ok hp' hmem hpk
  conv => whnf
  (refine pv_isNil (b := true) ttH rfl rfl rfl (.inr ⟨rfl, rfl⟩) ?_; conv => whnf)
  (refine pv_nil rfl ?_; (conv => whnf); refine pv_field ttH rfl rfl rfl ?_; conv => whnf)
  refine pv_loadA (i := 0) ttH rfl rfl rfl hpr rfl ?_
  cases hkn : p'.pl.known with
  | true =>
    conv => whnf
    exact .done _ _ rfl rfl ⟨rfl, rfl⟩
  | false =>
    have hq : (waitsT T : Int) ≥ d.c 28 := hno.resolve_left (by rw [hkn]; decide)
    conv => whnf
    (refine pv_nil rfl ?_; (conv => whnf); refine pv_field ttH rfl rfl rfl ?_; conv => whnf)
    (refine pv_loadA (i := 0) ttH rfl rfl rfl (hh) rfl ?_; conv => whnf)
    (refine pv_nil rfl ?_; (conv => whnf); refine pv_field ttH rfl rfl rfl ?_; conv => whnf)
    (refine pv_field ttH rfl rfl rfl ?_; conv => whnf)
    (refine pv_loadA (i := 0) ttH rfl rfl rfl (hh) rfl ?_; conv => whnf)
    refine Fork.intro (fun _ => ?_) (fun q => absurd (show (d.c 28 : Int) ≤ waitsL d.L by rw [hwl]; exact hq) (of_decide_eq_false q))
    conv => whnf
    exact .done _ _ rfl rfl ⟨rfl, rfl⟩
set_option maxHeartbeats 16000000 in
theorem want_new (d : CDat) (T : List Pl) (h : CStand d T) (k : Int × Int) (hk : keyW k) (hno : ∀ p ∈ d.L, p.pl.key ≠ k) (b : List Nat) (hb : b.length ≤ 100000) (hn : 0 ≤ d.now ∧ d.now ≤ 2000000000) (hw : waitsT T ≤ 1000000) :
    ArC Try.prog 8 [ptrD d.cg, .agg (plC k), octR b] (cacheM d) fun r M => r = .tup [boolD (wantT d.c d.now T k b).1.1, errD (wantT d.c d.now T k b).1.2] ∧ ∃ d', M = cacheM d' ∧ d'.cg = d.cg ∧ d'.c = d.c ∧ d'.now = d.now ∧ CStand d' (wantT d.c d.now T k b).2 := by
  refine arOf [] Try.func8 rfl (by kernel_rfl) (Nat.le_of_ble_eq_true rfl) fun S => ?_
  have hg := get_ar d h.ok k hk
  obtain ⟨lk, hlk⟩ := place_key k hk
  have hh := cache_hdr (d := d)
  have hm := cache_map h.ok
  have hL := ent_keys h.ok
  have hj := join1_fn b (by omega)
  have hwl : waitsL d.L = waitsT T := h.waits
  have hll := h.len
  have hdue := due_fn d (d.c 30) hn
  unfold wantT
  rw [h.none hno]
  dsimp only
  conv => whnf
  (refine pv_isNil (b := false) ttH rfl rfl rfl (.inl ⟨rfl, rfl⟩) ?_; conv => whnf)
  refine CallVC.ar (i := 0) hg rfl rfl ?_
  rintro _ _ S1 ⟨rfl, (⟨_, rfl⟩ | ⟨p', hp', hpk, rfl⟩)⟩
  rotate_left
  · exact absurd hpk (hno p' hp')
  conv => whnf
  (refine pv_nil rfl ?_; (conv => whnf); refine pv_field ttH rfl rfl rfl ?_; conv => whnf)
  (refine pv_loadA (i := 0) ttH rfl rfl rfl (hh) rfl ?_; conv => whnf)
  (refine pv_nil rfl ?_; (conv => whnf); refine pv_field ttH rfl rfl rfl ?_; conv => whnf)
  (refine pv_field ttH rfl rfl rfl ?_; conv => whnf)
  (refine pv_loadA (i := 0) ttH rfl rfl rfl (hh) rfl ?_; conv => whnf)
  rw [hwl]
  cases hq1 : decide ((waitsT T : Int) ≥ d.c 28) with
  | true =>
    conv => whnf
    exact .done _ _ rfl rfl ⟨rfl, d, rfl, rfl, rfl, rfl, h⟩
  | false =>
    conv => whnf
    (refine pv_nil rfl ?_; (conv => whnf); refine pv_field ttH rfl rfl rfl ?_; conv => whnf)
    (refine pv_loadA (i := 0) ttH rfl rfl rfl (hh) rfl ?_; conv => whnf)
    refine pv_mapLen (i := 0) ttH rfl rfl rfl rfl hm ?_
    rw [show (d.L.map entP).toArray.size = T.length by rw [← hll]; simp]
    conv => whnf
    (refine pv_nil rfl ?_; (conv => whnf); refine pv_field ttH rfl rfl rfl ?_; conv => whnf)
    (refine pv_field ttH rfl rfl rfl ?_; conv => whnf)
    (refine pv_loadA (i := 0) ttH rfl rfl rfl (hh) rfl ?_; conv => whnf)
    cases hq2 : decide ((T.length : Int) ≥ d.c 27) with
    | true =>
      conv => whnf
      exact .done _ _ rfl rfl ⟨rfl, d, rfl, rfl, rfl, rfl, h⟩
    | false =>
      conv => whnf
      (refine pv_nil rfl ?_; (conv => whnf); refine pv_field ttH rfl rfl rfl ?_; conv => whnf)
      (refine pv_field ttH rfl rfl rfl ?_; conv => whnf)
      (refine pv_loadA (i := 0) ttH rfl rfl rfl (hh) rfl ?_; conv => whnf)
      refine CallVC.lookA (i := 0) hdue rfl rfl (conv_fp hh) ?_
      rintro _ rfl
      conv => whnf
      (refine pv_nil rfl ?_; (conv => whnf); refine pv_field ttH rfl rfl rfl ?_; conv => whnf)
      (refine pv_loadA (i := 0) ttH rfl rfl rfl (hh) rfl ?_; conv => whnf)
      refine op_absorb (i := 0) (j := 2) rfl rfl rfl fun g S2 hgn => ?_
      have nmg : d.mg ≠ g := fun e => by rw [e, hgn] at hm; cases hm
      have ncg : d.cg ≠ g := fun e => by rw [e, hgn] at hh; cases hh
      have ncm : d.cg ≠ d.mg := fun e => by rw [e, hm] at hh; cases hh
      have hm1 : ∀ X, (cacheM d).upd g X d.mg = some (.ob (mapO d)) := fun X => by rw [upd_if, if_neg nmg, hm]
      refine op_setMapA (i := 0) (L := d.L.map entP) (vs := [.int .i64 k.1, .int .u32 k.2]) (u := .pointer (some ⟨g, 0, none⟩)) rfl Try.underlying69 place_law rfl rfl rfl rfl (hm1 _) hlk hL (fun _ => ?_) (fun j e he hek => ?_)
      rotate_left
      · obtain ⟨p, hp, rfl⟩ := List.mem_map.1 (List.mem_of_getElem? he)
        exact absurd (placeV_inj (k := p.pl.key) (k' := k) hek) (hno p hp)
      have hpl : ∀ X Y, (((cacheM d).upd g Y).upd d.mg X) g = Y := fun X Y => by rw [upd_if, if_neg (Ne.symm nmg), upd_if, if_pos rfl]
      conv => whnf
      (refine pv_nil rfl ?_; (conv => whnf); refine pv_field ttH rfl rfl rfl ?_; conv => whnf)
      refine pv_loadA (i := 0) ttH rfl rfl rfl (hpl _ _) rfl ?_
      conv => whnf
      refine ⟨by decide, ?_⟩
      conv => whnf
      refine CallVC.pure hj rfl ?_
      rintro _ rfl
      conv => whnf
      refine ⟨by decide, ?_⟩
      conv => whnf
      refine ⟨List Nat, wsE, [b], rfl, fun _ => rfl, Nat.le_of_ble_eq_true rfl, Nat.le_of_ble_eq_true rfl, rfl, ?_⟩
      conv => whnf
      (refine pv_nil rfl ?_; (conv => whnf); refine pv_field ttH rfl rfl rfl ?_; conv => whnf)
      refine op_absorbRow (i := 0) (r := 3) rfl rfl fun row rest S3 hrw1 hrw2 => ?_
      obtain ⟨y, hy⟩ : ∃ y, row = some y := by
        cases row with
        | none => have := hrw1 rfl; simp at this
        | some y => exact ⟨y, rfl⟩
      subst hy
      obtain ⟨g1, c1⟩ := y
      obtain ⟨hf1, hf2, hf3⟩ := hrw2 _ rfl
      dsimp only at hf1 hf2 hf3
      rw [upd_if] at hf1
      split at hf1
      · cases hf1
      rename_i n1
      rw [upd_if] at hf1
      split at hf1
      · cases hf1
      rename_i n2
      obtain ⟨q, hqq⟩ : ∃ q : Pr, q = ⟨⟨k.1, k.2, false, mac0, 1, d.now + clampW (d.c 30), [b]⟩, d.clk, g, some (g1, c1), rest⟩ := ⟨_, rfl⟩
      have hpr1 : ∀ X Y Z, updR (((cacheM d).upd g Y).upd d.mg X) (some (g1, c1)) Z g = Y := fun X Y Z => by
        show ((((cacheM d).upd g Y).upd d.mg X).upd g1 _) g = _
        rw [upd_if, if_neg (Ne.symm n2), hpl]
      refine op_storeS (i := 0) (row := some (g1, c1)) (n := 1) (l' := prC q) ttH rfl rfl rfl rfl rfl (hpr1 _ _ _) rfl (by rw [hqq]; rfl) ?_
      have m1 : d.cg ≠ g1 := fun e => by rw [e, hf1] at hh; cases hh
      have hh1 : ∀ X Y Z W, (updR (((cacheM d).upd g Y).upd d.mg X) (some (g1, c1)) Z).upd g W d.cg = some (.cells 71 (hdrC d)) := fun X Y Z W => by
        show ((((cacheM d).upd g Y).upd d.mg X).upd g1 _).upd g _ d.cg = _
        rw [upd_if, if_neg ncg, upd_if, if_neg m1, upd_if, if_neg ncm, upd_if, if_neg ncg, hh]
      have ew : IntKind.i64.wrap (((waitsL d.L : Nat) : Int) + 1) = ((waitsL (d.add q).L : Nat) : Int) := by
        rw [waitsL_add, hqq]
        show _ = ((waitsL d.L + 1 : Nat) : Int)
        rw [IntWalk.i64_in _ (by omega)]; omega
      have hq0 : q.pl = ⟨k.1, k.2, false, mac0, 1, d.now + clampW (d.c 30), [b]⟩ := by rw [hqq]
      have hqk : q.pl.key = k := by rw [hq0]; rfl
      have hqg : q.g = g := by rw [hqq]
      have hqr : q.row = some (g1, c1) := by rw [hqq]
      have hqb : q.born = d.clk := by rw [hqq]
      have hqe : q.rest = rest := by rw [hqq]
      have hqo : PrOk q := ⟨fun e => (by rw [hqr] at e; cases e), (fun x hx => by rw [hqr] at hx; injection hx with hx; subst hx; rw [hqe, hq0]; exact ⟨by rw [hf2]; omega, hf3⟩), by rw [hqk]; exact hk⟩
      have hqn : ∀ p ∈ d.L, p.pl.key ≠ q.pl.key := fun p hp => by rw [hqk]; exact hno p hp
      have hmap := map_add (d := d) (q := q) hqb
      conv => whnf
      (refine pv_nil rfl ?_; (conv => whnf); refine pv_field ttH rfl rfl rfl ?_; conv => whnf)
      (refine pv_loadA (i := 0) ttH rfl rfl rfl (hh1 _ _ _ _) rfl ?_; conv => whnf)
      (refine pv_nil rfl ?_; (conv => whnf); refine pv_field ttH rfl rfl rfl ?_; conv => whnf)
      rw [ew]
      refine op_storeA (i := 0) (l' := hdrC (d.add q)) ttH rfl rfl rfl rfl (hh1 _ _ _ _) rfl rfl rfl rfl rfl ?_
      have hadd := fun M' => add_pr (M' := M') h.ok (q := q) (by rw [hqg]; exact hgn) (fun x hx => by rw [hqr] at hx; injection hx with hx; subst hx; rw [hqg]; exact ⟨hf1, n2⟩) hqb hqn hqo
      obtain ⟨hcok, hM'⟩ := hadd (((updR (((cacheM d).upd g (some (.cells 75 ([boolD false, u8D 0, u8D 0, u8D 0, u8D 0, u8D 0, u8D 0, intD 1, intD (d.now + clampW (d.c 30)), .v (.slice none 0 0)])))).upd d.mg (some (.ob (mapO (d.add q))))) (some (g1, c1)) (.cells 40 (rowC wsE [b] rest))).upd g (some (.cells 75 (prC q)))).upd d.cg (some (.cells 71 (hdrC (d.add q))))) (fun k' => by
        rw [hqr, hqg, hqe, hq0]
        show ((((((cacheM d).upd g _).upd d.mg _).upd g1 _).upd g _).upd d.cg _) k' = if _ then _ else if _ then _ else (((cacheM d).upd d.mg _).upd g1 _) k'
        simp only [upd_if]
        by_cases e1 : k' = g
        · simp [e1]
        · simp [e1])
      rw [hmap] at hM'
      have hst := add_stand h hqn hcok
      rw [hq0] at hst
      have hpl0 : q.pl.nic = k.1 ∧ q.pl.next = k.2 := by rw [hq0]; exact ⟨rfl, rfl⟩
      rw [hpl0.1, hpl0.2, hqg] at hM'
      unfold placeV at hM'
      conv => whnf
      exact .done _ _ rfl rfl ⟨rfl, d.add q, hM', rfl, rfl, rfl, hst⟩
end Go.Proofs.Ytjgihniedhmpeaa.V
namespace Go.Proofs.Ytjgihniedhmpeaa.V
open Go.RowKit
attribute [local irreducible] Fn FnN OpVC ArC FnR ArL

theorem keys_at {d : CDat} (h : COk d) {A B : List Pr} {p : Pr} (hL : d.L = A ++ p :: B) {j : Nat} {e : MapEntry} (hj : (d.L.map entP)[j]? = some e) (he : e.key = placeV p.pl.key.1 p.pl.key.2) : j = A.length ∧ e = entP p := by
  rw [List.getElem?_map] at hj
  cases hq : d.L[j]? with
  | none => rw [hq] at hj; cases hj
  | some p2 =>
    rw [hq] at hj
    simp only [Option.map_some, Option.some.injEq] at hj
    subst hj
    have hk : p2.pl.key = p.pl.key := placeV_inj (k := p2.pl.key) (k' := p.pl.key) he
    have hpa : d.L[A.length]? = some p := by rw [hL]; simp
    have e1 : (d.L.map fun p => p.pl.key)[j]? = some p.pl.key := by rw [List.getElem?_map, hq]; exact congrArg some hk
    have e2 : (d.L.map fun p => p.pl.key)[A.length]? = some p.pl.key := by rw [List.getElem?_map, hpa]; rfl
    have hjl : j < (d.L.map fun p => p.pl.key).length := (List.getElem?_eq_some_iff.1 e1).1
    have hj2 : j = A.length := (List.getElem?_inj hjl h.keys).1 (e1.trans e2.symm)
    subst hj2
    rw [hpa] at hq
    injection hq with hq
    exact ⟨rfl, by rw [hq]⟩
theorem map_rep {d : CDat} {A B : List Pr} {p q : Pr} (hL : d.L = A ++ p :: B) (hk : q.pl.key = p.pl.key) (hb : q.born = p.born) : mapO (d.put A B q) = .map ((d.L.map entP).set A.length { entP p with val := .pointer (some ⟨q.g, 0, none⟩) }).toArray d.clk := by
  unfold mapO
  show Obj.map ((A ++ q :: B).map entP).toArray d.clk = _
  rw [hL, List.map_append, List.map_cons, List.map_append, List.map_cons]
  congr 2
  rw [List.set_append_right _ _ (by simp)]
  simp only [List.length_map, Nat.sub_self, List.set_cons_zero]
  congr 2
  unfold entP
  have : (q.pl.nic, q.pl.next) = (p.pl.nic, p.pl.next) := hk
  injection this with e1 e2
  rw [hb, e1, e2]
theorem rep_pr {d : CDat} (h : COk d) {A B : List Pr} {p q : Pr} (hL : d.L = A ++ p :: B) (hg : cacheM d q.g = none) (hr : q.row = none) (hk : q.pl.key = p.pl.key) (hb : q.born = p.born) (hok : PrOk q) :
    COk (d.put A B q) ∧ ∀ k x, cacheM (d.put A B q) k = some x → (k = d.cg ∧ x = .cells 71 (hdrC (d.put A B q))) ∨ (k ≠ d.cg ∧ k = d.mg ∧ x = .ob (mapO (d.put A B q))) ∨ (k ≠ d.cg ∧ k ≠ d.mg ∧ k = q.g ∧ x = .cells 75 (prC q)) ∨ (k ≠ d.cg ∧ k ≠ d.mg ∧ k ≠ q.g ∧ (∀ y, p.row = some y → k ≠ y.1) ∧ cacheM d k = some x) := by
  have hmem : p ∈ d.L := by rw [hL]; simp
  have hcg := cache_hdr (d := d)
  have hmg := cache_map h
  have ne0 : d.cg ≠ d.mg := fun e => by rw [e, hmg] at hcg; cases hcg
  have ne1 : d.cg ≠ q.g := fun e => by rw [e, hg] at hcg; cases hcg
  have ne2 : d.mg ≠ q.g := fun e => by rw [e, hg] at hmg; cases hmg
  have hop := cache_open h hL
  have hnd := (nodup_perm (items_open hL)).1 h.nodup
  unfold openI at hop hnd
  have hop2 := fun k => congrFun hop k
  generalize hR : (A ++ B).flatMap prItems = R at *
  have hq1 : prItems q = [(q.g, .cells 75 (prC q))] := by unfold prItems prRow; rw [hr]
  have hsub : ∀ k, k ∈ R.map (·.1) → k ≠ d.cg ∧ k ≠ d.mg ∧ k ∉ (prItems p).map (·.1) := fun k hk => by
    simp only [List.map_cons, List.map_append, List.nodup_cons, List.mem_cons, List.mem_append, not_or] at hnd
    obtain ⟨⟨_, _, r1⟩, ⟨_, r2⟩, r3⟩ := hnd
    refine ⟨fun e => r1 (e ▸ hk), fun e => r2 (e ▸ hk), fun hp => ?_⟩
    exact (List.nodup_append.1 r3).2.2 k hp k hk rfl
  have hRn : (R.map (·.1)).Nodup := by
    simp only [List.map_cons, List.map_append, List.nodup_cons, List.mem_cons, List.mem_append, not_or] at hnd
    exact (List.nodup_append.1 hnd.2.2).2.1
  have hRget : ∀ k x, lget R k = some x → cacheM d k = some x := fun k x hx => by
    rw [hop]
    refine lget_mem hnd ?_
    exact List.mem_cons_of_mem _ (List.mem_cons_of_mem _ (List.mem_append_right _ (lget_in hx)))
  have r3 : q.g ∉ R.map (·.1) := fun hin => by
    obtain ⟨y, hy, e⟩ := List.mem_map.1 hin
    have := hRget y.1 y.2 (lget_mem hRn hy)
    rw [e, hg] at this; cases this
  have hnew : (items (d.put A B q)).Perm (openI (d.put A B q) (prItems q) R) := by rw [← hR]; exact items_open rfl
  have hnd' : ((openI (d.put A B q) (prItems q) R).map (·.1)).Nodup := by
    unfold openI
    rw [hq1]
    simp only [List.cons_append, List.nil_append, List.map_cons, List.nodup_cons, List.mem_cons, not_or]
    exact ⟨⟨ne0, ne1, fun hk => (hsub _ hk).1 rfl⟩, ⟨ne2, fun hk => (hsub _ hk).2.1 rfl⟩, r3, hRn⟩
  refine ⟨⟨(nodup_perm hnew).2 hnd', fun x hx => ?_, put_keys h hL hk, (put_born h hL hb).1, (put_born h hL hb).2⟩, fun k x hx => ?_⟩
  · rcases List.mem_append.1 hx with hx | hx
    · exact h.rows x (by rw [hL]; simp [hx])
    · rcases List.mem_cons.1 hx with rfl | hx
      · exact hok
      · exact h.rows x (by rw [hL]; simp [hx])
  · have hx : lget (items (d.put A B q)) k = some x := hx
    rw [lget_perm hnew ((nodup_perm hnew).2 hnd')] at hx
    unfold openI at hx
    rw [hq1] at hx
    simp only [List.cons_append, List.nil_append, lget_cons] at hx
    change (if k = d.cg then _ else if k = d.mg then _ else _) = some x at hx
    by_cases e1 : k = d.cg
    · rw [if_pos e1] at hx
      injection hx with hx
      exact .inl ⟨e1, hx.symm⟩
    rw [if_neg e1] at hx
    by_cases e2 : k = d.mg
    · rw [if_pos e2] at hx
      injection hx with hx
      exact .inr (.inl ⟨e1, e2, hx.symm⟩)
    rw [if_neg e2] at hx
    by_cases e3 : k = q.g
    · rw [if_pos e3] at hx
      injection hx with hx
      exact .inr (.inr (.inl ⟨e1, e2, e3, hx.symm⟩))
    rw [if_neg e3] at hx
    refine .inr (.inr (.inr ⟨e1, e2, e3, fun y hy e => ?_, hRget k x hx⟩))
    have hin : k ∈ R.map (·.1) := List.mem_map.2 ⟨_, lget_in hx, rfl⟩
    refine (hsub k hin).2.2 ?_
    unfold prItems prRow
    rw [hy, e]
    simp

theorem DLe.tup2 {a b c : D} (h : DLe a b) : DLe (.tup [a, c]) (.tup [b, c]) := dleP h
theorem ws_thaw {C : Ctx} {g c : Nat} {ws : List (List Nat)} {rest : List Value} {x : D} {v : Value} (hok : C.ok g) (hat : (It.cells 40 (rowC wsE ws rest)).at C.still g) (h : Rep C (.tup [.v (slV (some (g, c)) ws.length), x]) v) : Rep C (.tup [wsR ws, x]) v := by
  cases h with
  | tup hs hh =>
    refine .tup hs fun j d u hd hu => ?_
    match j, hd with
    | 0, hd =>
      injection hd with hd; subst hd
      exact rowsA_at (M := fun k => if k = g then some (.cells 40 (rowC wsE ws rest)) else none) (row := some (g, c)) (fun k y hy => by
        by_cases e : k = g
        · subst e; rw [if_pos rfl] at hy; injection hy with hy; subst hy; exact ⟨hok, hat⟩
        · rw [if_neg e] at hy; cases hy) (fun e => by cases e) (fun _ _ _ => rfl) (fun y hy => by injection hy with hy; subst hy; exact if_pos rfl) (hh 0 _ u rfl hu)
    | j + 1, hd => exact hh (j + 1) d u hd hu
set_option maxHeartbeats 16000000 in
theorem learn_old (d : CDat) (T : List Pl) (h : CStand d T) (A B : List Pr) (p : Pr) (hL : d.L = A ++ p :: B) (m : Nat → Int) (add : Bool) (hn : 0 ≤ d.now ∧ d.now ≤ 2000000000) (hw : waitsT T ≤ 1000000) (hk : keyW p.pl.key) :
    ArC Try.prog 9 [ptrD d.cg, .agg (plC p.pl.key), .agg (macC m), boolD add] (cacheM d) fun r M => r = .tup [wsR p.pl.ws, boolD true] ∧ ∃ d', M = cacheM d' ∧ d'.cg = d.cg ∧ d'.c = d.c ∧ d'.now = d.now ∧ CStand d' (updT T ⟨p.pl.nic, p.pl.next, true, m, 0, d.now + clampW (d.c 29), []⟩) := by
  refine arOf [] Try.func9 rfl (by kernel_rfl) (Nat.le_of_ble_eq_true rfl) fun S => ?_
  have hmem : p ∈ d.L := by rw [hL]; simp
  have hg := get_ar d h.ok p.pl.key hk
  obtain ⟨lk, hlk⟩ := place_key p.pl.key hk
  have hh := cache_hdr (d := d)
  have hm := cache_map h.ok
  have hLk := ent_keys h.ok
  have hpr := cache_pr h.ok hmem
  have hwl : waitsL d.L = waitsT T := h.waits
  have hdue := fun X Y => due_gen d.c d.now X Y (d.c 29) hn
  obtain ⟨hp1, hp2, _⟩ := h.ok.rows p hmem
  have hws : p.pl.ws.length ≤ waitsT T := waitsT_mem (h.perm.mem_iff.1 (List.mem_map_of_mem hmem))
  conv => whnf
  refine CallVC.ar (i := 0) hg rfl rfl ?_
  rintro _ _ S1 ⟨rfl, (⟨hno, _⟩ | ⟨p', hp', hpk, rfl⟩)⟩
  · exact absurd rfl (hno p hmem)
  obtain rfl : p' = p := find_mem h.ok hp' hmem hpk
  conv => whnf
  (refine pv_isNil (b := false) ttH rfl rfl rfl (.inl ⟨rfl, rfl⟩) ?_; conv => whnf)
  (refine pv_isNil (b := false) ttH rfl rfl rfl (.inl ⟨rfl, rfl⟩) ?_; conv => whnf)
  (refine pv_isNil (b := true) ttH rfl rfl rfl (.inr ⟨rfl, rfl⟩) ?_; conv => whnf)
  (refine pv_nil rfl ?_; (conv => whnf); refine pv_field ttH rfl rfl rfl ?_; conv => whnf)
  (refine pv_loadA (i := 0) ttH rfl rfl rfl (hpr) rfl ?_; conv => whnf)
  (refine pv_nil rfl ?_; (conv => whnf); refine pv_field ttH rfl rfl rfl ?_; conv => whnf)
  (refine pv_loadA (i := 0) ttH rfl rfl rfl (hh) rfl ?_; conv => whnf)
  refine pv_lenS (row := p'.row) (n := p'.pl.ws.length) ttH (fun e => by rw [hp1 e]; rfl) rfl rfl ?_
  conv => whnf
  have hwp : p'.pl.ws.length ≤ waitsL d.L := by rw [hwl]; exact hws
  have ew : IntKind.i64.wrap (((waitsL d.L : Nat) : Int) - ((p'.pl.ws.length : Nat) : Int)) = ((waitsL d.L - p'.pl.ws.length : Nat) : Int) := by
    rw [IntWalk.i64_in _ (by omega)]; omega
  obtain ⟨hdX, hhX⟩ : ∃ l, l = cfgC d.c ++ [intD d.now, .v (.map (some d.mg)), intD ((waitsL d.L - p'.pl.ws.length : Nat) : Int)] := ⟨_, rfl⟩
  (refine pv_nil rfl ?_; (conv => whnf); refine pv_field ttH rfl rfl rfl ?_; conv => whnf)
  rw [ew]
  refine op_storeA (i := 0) (l' := hdX) ttH rfl rfl rfl rfl hh rfl rfl rfl rfl (by rw [hhX]; rfl) ?_
  have hh1 : ∀ X, (cacheM d).upd d.cg X d.cg = X := fun X => by rw [upd_if, if_pos rfl]
  rw [hhX]
  conv => whnf
  (refine pv_nil rfl ?_; (conv => whnf); refine pv_field ttH rfl rfl rfl ?_; conv => whnf)
  (refine pv_loadA (i := 0) ttH rfl rfl rfl (hh1 _) rfl ?_; conv => whnf)
  (refine pv_nil rfl ?_; (conv => whnf); refine pv_field ttH rfl rfl rfl ?_; conv => whnf)
  (refine pv_field ttH rfl rfl rfl ?_; conv => whnf)
  (refine pv_loadA (i := 0) ttH rfl rfl rfl (hh1 _) rfl ?_; conv => whnf)
  refine CallVC.lookA (i := 0) (hdue _ _) rfl rfl (conv_fp (hh1 _)) ?_
  rintro _ rfl
  conv => whnf
  refine op_absorb (i := 0) (j := 3) rfl rfl rfl fun g S2 hgn => ?_
  rw [upd_if] at hgn
  split at hgn
  · cases hgn
  rename_i n1
  have nmg : d.mg ≠ g := fun e => by rw [e, hgn] at hm; cases hm
  have ncm : d.cg ≠ d.mg := fun e => by rw [e, hm] at hh; cases hh
  have hm1 : ∀ X Y, ((cacheM d).upd d.cg X).upd g Y d.mg = some (.ob (mapO d)) := fun X Y => by rw [upd_if, if_neg nmg, upd_if, if_neg (Ne.symm ncm), hm]
  refine op_setMapA (i := 0) (L := d.L.map entP) (vs := [.int .i64 p'.pl.key.1, .int .u32 p'.pl.key.2]) (u := .pointer (some ⟨g, 0, none⟩)) rfl Try.underlying69 place_law rfl rfl rfl rfl (hm1 _ _) hlk hLk (fun hno => ?_) (fun j e he hek => ?_)
  · exact absurd rfl (hno (entP p') (List.mem_map_of_mem hmem))
  obtain ⟨rfl, rfl⟩ := keys_at h.ok hL he hek
  obtain ⟨q, hqq⟩ : ∃ q : Pr, q = ⟨⟨p'.pl.nic, p'.pl.next, true, m, 0, d.now + clampW (d.c 29), []⟩, p'.born, g, none, []⟩ := ⟨_, rfl⟩
  have hqg : q.g = g := by rw [hqq]
  have hqr : q.row = none := by rw [hqq]
  have hqb : q.born = p'.born := by rw [hqq]
  have hq0 : q.pl = ⟨p'.pl.nic, p'.pl.next, true, m, 0, d.now + clampW (d.c 29), []⟩ := by rw [hqq]
  have hqk : q.pl.key = p'.pl.key := by rw [hq0]; rfl
  have hqo : PrOk q := ⟨fun _ => (by rw [hq0]), fun x hx => (by rw [hqr] at hx; cases hx), by rw [hqk]; exact hk⟩
  obtain ⟨hcok, hsub⟩ := rep_pr h.ok hL (by rw [hqg]; exact hgn) hqr hqk hqb hqo
  have hmap := map_rep hL hqk hqb
  rw [hqg] at hmap
  have hst := put_stand h hL hqk hcok
  rw [hq0] at hst
  have hwq : waitsL (d.put A B q).L = waitsL d.L - p'.pl.ws.length := by
    have h2 : waitsL d.L = waitsT ((A ++ p' :: B).map Pr.pl) := by unfold waitsL; rw [hL]
    have h3 := waitsT_set (A := A.map Pr.pl) (B := B.map Pr.pl) (x := p'.pl) (y := q.pl)
    have h4 : waitsL (d.put A B q).L = waitsT ((A ++ q :: B).map Pr.pl) := rfl
    rw [h4, h2]
    rw [List.map_append, List.map_cons, List.map_append, List.map_cons]
    rw [hq0] at h3 ⊢
    have e0 : (List.length ([] : List (List Nat))) = 0 := rfl
    dsimp only at h3 ⊢
    omega
  have hhd : hdrC (d.put A B q) = cfgC d.c ++ [intD d.now, .v (.map (some d.mg)), intD ((waitsL d.L - p'.pl.ws.length : Nat) : Int)] := by
    unfold hdrC
    rw [hwq]
    rfl
  have hprq : prC q = [boolD true, u8D (m 0), u8D (m 1), u8D (m 2), u8D (m 3), u8D (m 4), u8D (m 5), intD 0, intD (d.now + clampW (d.c 29)), .v (.slice none 0 0)] := by
    unfold prC
    rw [hq0, hqr]
    show [_, _, _, _, _, _, _, _, _, D.v (slV none 0)] = _
    rw [slV_none]
  have hin : ∀ k x, cacheM (d.put A B q) k = some x → (((cacheM d).upd d.cg (some (.cells 71 (hdrC (d.put A B q))))).upd g (some (.cells 75 (prC q)))).upd d.mg (some (.ob (mapO (d.put A B q)))) k = some x ∧ ∀ y, p'.row = some y → k ≠ y.1 := fun k x hx => by
    obtain ⟨_, _, _, c4⟩ := cache_ne h.ok hmem
    rcases hsub k x hx with ⟨e1, e2⟩ | ⟨e0, e1, e2⟩ | ⟨e0, e1, e2, e3⟩ | ⟨e0, e1, e2, e3, e4⟩
    · refine ⟨by rw [upd_if, if_neg (by rw [e1]; exact ncm), upd_if, if_neg (by rw [e1]; exact fun e => n1 e.symm), upd_if, if_pos e1, e2], fun y hy => by rw [e1]; exact (c4 y hy).1⟩
    · refine ⟨by rw [upd_if, if_pos e1, e2], fun y hy => by rw [e1]; exact (c4 y hy).2.1⟩
    · refine ⟨by rw [upd_if, if_neg e1, upd_if, if_pos (by rw [e2, hqg]), e3], fun y hy e => ?_⟩
      rw [e2, hqg] at e
      have := cache_row h.ok hmem hy
      rw [← e, hgn] at this; cases this
    · exact ⟨by rw [upd_if, if_neg e1, upd_if, if_neg (by rw [← hqg]; exact e2), upd_if, if_neg e0, e4], e3⟩
  rw [hhd, hprq, hmap] at hin
  conv => whnf
  cases hr : p'.row with
  | none =>
    have hw0 := hp1 hr
    rw [hr] at hin
    refine .le (d' := .tup [wsR p'.pl.ws, boolD true]) (DLe.tup2 ?_) (.drp _ _ (cacheM (d.put A B q)) rfl (fun k x hx => (hin k x hx).1) fun S4 => .done S4 _ rfl rfl ⟨rfl, d.put A B q, rfl, rfl, rfl, rfl, hst⟩)
    rw [slV_none, hw0]
    exact DLe.nil _ _
  | some y =>
    obtain ⟨g0, c0⟩ := y
    have hr0 := cache_row h.ok hmem hr
    obtain ⟨_, _, _, c4⟩ := cache_ne h.ok hmem
    obtain ⟨c5, c6, _⟩ := c4 _ hr
    dsimp only at hr0 c5 c6
    have c7 : g0 ≠ g := fun e => by rw [e, hgn] at hr0; cases hr0
    have hM0 : ∀ X Y Z, (((cacheM d).upd d.cg X).upd g Y).upd d.mg Z g0 = some (.cells 40 (rowC wsE p'.pl.ws p'.rest)) := fun X Y Z => by
      rw [upd_if, if_neg (Ne.symm c6), upd_if, if_neg c7, upd_if, if_neg (Ne.symm c5), hr0]
    refine .thw (d' := .tup [wsR p'.pl.ws, boolD true]) _ _ g0 _ rfl (hM0 _ _ _) (fun C v hok hat hv => ws_thaw hok hat hv) fun S4 => ?_
    refine .drp _ _ (cacheM (d.put A B q)) rfl (fun k x hx => ?_) fun S5 => .done S5 _ rfl rfl ⟨rfl, d.put A B q, rfl, rfl, rfl, rfl, hst⟩
    obtain ⟨h1, h2⟩ := hin k x hx
    exact (upd_if _ _ _ _).trans ((if_neg (h2 _ hr)).trans h1)
set_option maxHeartbeats 16000000 in
theorem learn_new (d : CDat) (T : List Pl) (h : CStand d T) (k : Int × Int) (hk : keyW k) (hno : ∀ p ∈ d.L, p.pl.key ≠ k) (m : Nat → Int) (add : Bool) (hn : 0 ≤ d.now ∧ d.now ≤ 2000000000) :
    ArC Try.prog 9 [ptrD d.cg, .agg (plC k), .agg (macC m), boolD add] (cacheM d) fun r M => r = .tup [wsR (learnT d.c d.now T k m add).1.1, boolD (learnT d.c d.now T k m add).1.2] ∧ ∃ d', M = cacheM d' ∧ d'.cg = d.cg ∧ d'.c = d.c ∧ d'.now = d.now ∧ CStand d' (learnT d.c d.now T k m add).2 := by
  refine arOf [] Try.func9 rfl (by kernel_rfl) (Nat.le_of_ble_eq_true rfl) fun S => ?_
  have hg := get_ar d h.ok k hk
  obtain ⟨lk, hlk⟩ := place_key k hk
  have hh := cache_hdr (d := d)
  have hm := cache_map h.ok
  have hL := ent_keys h.ok
  have hll := h.len
  have hdue := due_fn d (d.c 29) hn
  unfold learnT
  rw [h.none hno]
  dsimp only
  conv => whnf
  refine CallVC.ar (i := 0) hg rfl rfl ?_
  rintro _ _ S1 ⟨rfl, (⟨_, rfl⟩ | ⟨p', hp', hpk, rfl⟩)⟩
  rotate_left
  · exact absurd hpk (hno p' hp')
  conv => whnf
  (refine pv_isNil (b := false) ttH rfl rfl rfl (.inl ⟨rfl, rfl⟩) ?_; conv => whnf)
  cases add with
  | false =>
    conv => whnf
    exact .le (d' := .tup [wsR [], boolD false]) (DLe.tup2 (DLe.nil _ _)) (.done _ _ rfl rfl ⟨rfl, d, rfl, rfl, rfl, rfl, h⟩)
  | true =>
    conv => whnf
    (refine pv_nil rfl ?_; (conv => whnf); refine pv_field ttH rfl rfl rfl ?_; conv => whnf)
    (refine pv_loadA (i := 0) ttH rfl rfl rfl (hh) rfl ?_; conv => whnf)
    refine pv_mapLen (i := 0) ttH rfl rfl rfl rfl hm ?_
    rw [show (d.L.map entP).toArray.size = T.length by rw [← hll]; simp]
    conv => whnf
    (refine pv_nil rfl ?_; (conv => whnf); refine pv_field ttH rfl rfl rfl ?_; conv => whnf)
    (refine pv_field ttH rfl rfl rfl ?_; conv => whnf)
    (refine pv_loadA (i := 0) ttH rfl rfl rfl (hh) rfl ?_; conv => whnf)
    cases hq2 : decide ((T.length : Int) ≥ d.c 27) with
    | true =>
      conv => whnf
      exact .le (d' := .tup [wsR [], boolD false]) (DLe.tup2 (DLe.nil _ _)) (.done _ _ rfl rfl ⟨rfl, d, rfl, rfl, rfl, rfl, h⟩)
    | false =>
      conv => whnf
      (refine pv_nil rfl ?_; (conv => whnf); refine pv_field ttH rfl rfl rfl ?_; conv => whnf)
      (refine pv_loadA (i := 0) ttH rfl rfl rfl (hh) rfl ?_; conv => whnf)
      (refine pv_nil rfl ?_; (conv => whnf); refine pv_field ttH rfl rfl rfl ?_; conv => whnf)
      (refine pv_field ttH rfl rfl rfl ?_; conv => whnf)
      (refine pv_loadA (i := 0) ttH rfl rfl rfl (hh) rfl ?_; conv => whnf)
      refine CallVC.lookA (i := 0) hdue rfl rfl (conv_fp hh) ?_
      rintro _ rfl
      conv => whnf
      refine op_absorb (i := 0) (j := 3) rfl rfl rfl fun g S2 hgn => ?_
      have nmg : d.mg ≠ g := fun e => by rw [e, hgn] at hm; cases hm
      have ncg : d.cg ≠ g := fun e => by rw [e, hgn] at hh; cases hh
      have ncm : d.cg ≠ d.mg := fun e => by rw [e, hm] at hh; cases hh
      have hm1 : ∀ X, (cacheM d).upd g X d.mg = some (.ob (mapO d)) := fun X => by rw [upd_if, if_neg nmg, hm]
      refine op_setMapA (i := 0) (L := d.L.map entP) (vs := [.int .i64 k.1, .int .u32 k.2]) (u := .pointer (some ⟨g, 0, none⟩)) rfl Try.underlying69 place_law rfl rfl rfl rfl (hm1 _) hlk hL (fun _ => ?_) (fun j e he hek => ?_)
      rotate_left
      · obtain ⟨p, hp, rfl⟩ := List.mem_map.1 (List.mem_of_getElem? he)
        exact absurd (placeV_inj (k := p.pl.key) (k' := k) hek) (hno p hp)
      obtain ⟨q, hqq⟩ : ∃ q : Pr, q = ⟨⟨k.1, k.2, true, m, 0, d.now + clampW (d.c 29), []⟩, d.clk, g, none, []⟩ := ⟨_, rfl⟩
      have hq0 : q.pl = ⟨k.1, k.2, true, m, 0, d.now + clampW (d.c 29), []⟩ := by rw [hqq]
      have hqk : q.pl.key = k := by rw [hq0]; rfl
      have hqg : q.g = g := by rw [hqq]
      have hqr : q.row = none := by rw [hqq]
      have hqb : q.born = d.clk := by rw [hqq]
      have hqo : PrOk q := ⟨fun _ => (by rw [hq0]), fun x hx => (by rw [hqr] at hx; cases hx), by rw [hqk]; exact hk⟩
      have hqn : ∀ p ∈ d.L, p.pl.key ≠ q.pl.key := fun p hp => by rw [hqk]; exact hno p hp
      have hmap := map_add (d := d) (q := q) hqb
      have hwq : waitsL (d.add q).L = waitsL d.L := by rw [waitsL_add, hq0]; rfl
      have hhd : hdrC (d.add q) = hdrC d := by
        unfold hdrC
        rw [hwq]
        rfl
      have hprq : prC q = [boolD true, u8D (m 0), u8D (m 1), u8D (m 2), u8D (m 3), u8D (m 4), u8D (m 5), intD 0, intD (d.now + clampW (d.c 29)), .v (.slice none 0 0)] := by
        unfold prC
        rw [hq0, hqr]
        show [_, _, _, _, _, _, _, _, _, D.v (slV none 0)] = _
        rw [slV_none]
      obtain ⟨hcok, hM'⟩ := add_pr (M' := ((cacheM d).upd g (some (.cells 75 (prC q)))).upd d.mg (some (.ob (mapO (d.add q))))) h.ok (q := q) (by rw [hqg]; exact hgn) (fun x hx => by rw [hqr] at hx; cases hx) hqb hqn hqo (fun k' => by
        rw [hqr, hqg, hhd]
        show _ = if _ then _ else if _ then _ else ((cacheM d).upd d.mg _) k'
        simp only [upd_if]
        by_cases e1 : k' = d.cg
        · subst e1; simp [ncg, ncm, hh]
        by_cases e2 : k' = g
        · subst e2; simp [Ne.symm nmg, e1]
        · simp [e1, e2])
      rw [hmap, hprq] at hM'
      have hst := add_stand h hqn hcok
      rw [hq0] at hst
      have hpl0 : q.pl.nic = k.1 ∧ q.pl.next = k.2 := by rw [hq0]; exact ⟨rfl, rfl⟩
      rw [hpl0.1, hpl0.2, hqg] at hM'
      unfold placeV at hM'
      conv => whnf
      exact .le (d' := .tup [wsR [], boolD true]) (DLe.tup2 (DLe.nil _ _)) (.done _ _ rfl rfl ⟨rfl, d.add q, hM', rfl, rfl, rfl, hst⟩)
end Go.Proofs.Ytjgihniedhmpeaa.V
