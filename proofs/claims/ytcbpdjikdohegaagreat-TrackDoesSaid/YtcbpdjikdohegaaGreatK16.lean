/-
  A track as a cluster; what is looked at alone; a new one. Conditions: the track stands right.
  A new track. No condition.
  A track: adding. Conditions: the flow's numbers are of their kinds; ticks not too great, not too many entries.
  A track: keeping anew. Conditions: the flow's numbers are of their kinds; ticks not too great, not too many entries.
  A track: a place emptied; dropping. Conditions: the flow's numbers are of their kinds; ticks not too great, not too many entries.
  A track: what is due, in order; the comparison by tick and flow. No condition but that flows' numbers are of their kinds.
-/
import Derived.Test.YtcbpdjikdohegaaGreatKaK
import Derived.Test.YtcbpdjikdohegaaGreatKpK
import Derived.Test.YtcbpdjikdohegaaGreatVexK
import Derived.Test.YtcbpdjikdohegaaGreatVtK
namespace Go.Proofs.YtcbpdjikdohegaaGreat.V
open Go.RowKit

/-! ### Clusters, more -/
theorem obsOfC {f : FuncId} {fn : Func} {c : Code} {A : Fam} {rest : List D} {Q : D → SepA → Prop} (pl : Plans) (hfn : Tryz.prog.funcs[f]? = some fn) (hc : fn.body = some c) (hok : codeOk pl fn.ntmps c = true) (hn : rest.length + 1 ≤ fn.ntmps)
    (h : ∀ H nx, A H nx → ∃ r z s0, Cover r z ⟨enumD (.loc 0 0 :: rest) 0, H, nx, ([0], 1)⟩ s0 ∧ wpc Tryz.prog tt pl c s0 fun e s' => endK e (resK tt s' fn.results.toList fun l => seeD (oneD l) fun d => sepEnd s' d fun d A' => Q d (sepOf A'))) : ObS Tryz.prog f (sepOf A) rest Q := by
  refine ⟨⟨fn, hfn, by rw [hc]; rfl⟩, fun w B b S args' hB hSl hR hr => ?_⟩
  obtain ⟨H, nx, σ, τ, hA, hb0, h0, hS, hhr⟩ := hR
  have hs := sep_start (n := fn.ntmps) hhr hS hb0 h0 hB hr hn
  obtain ⟨r, z, s0, hcov, hw⟩ := h H nx hA
  refine calls_of_wp hfn hc (wp_mono (wpc_sound ttH ebH mxH c hok _ _ _ _ _ w hw (cover_state hcov hs)) fun e a1 w1 hh => ?_)
  obtain ⟨x, s1, σ1, τ1, rfl, h1, h2⟩ := hh
  have fin : resK tt s1 fn.results.toList (fun l => seeD (oneD l) fun d => sepEnd s1 d fun d A' => Q d (sepOf A')) →
      a1.defers = [] ∧ ∃ v, (results fn a1.tmps).run Tryz.prog w1 = .ok v w1 ∧ ∃ d u A' S', Q d A' ∧ Ending.returned v = .returned u ∧ TurnedS S w w1 ∧ (∀ k, S' k → (S k ∨ w.heap.size ≤ k) ∧ k < w1.heap.size) ∧ A'.R (baseCtx w1 (newS B S S' w w1)) b S' ∧ Rep (baseCtx w1 (newS B S S' w w1)) d u := by
    intro hres
    obtain ⟨l, vs, h3, h4, h5⟩ := resK_run ttH h2 _ _ hres
    rw [seeD_eq] at h3
    obtain ⟨d', A', S', q1, q2, q3, q4, q5⟩ := sep_end hSl h2 (oneD_rep h4) (by omega) h3
    exact ⟨h2.defers, _, results_at h5, d', _, sepOf A', S', q1, rfl, q2, q3, q4, q5⟩
  cases x with
  | normal => exact fin h1
  | ret => exact fin h1
  | exit i => exact h1.elim

theorem NewS.imp {f : FuncId} {args : List D} {F1 F2 : Fam} (h : NewS Tryz.prog f args fun A => A = sepOf F1) (himp : ∀ C b S, SepR F1 C b S → SepR F2 C b S) : NewS Tryz.prog f args fun A => A = sepOf F2 := by
  refine ⟨h.1, fun w B args' h1 h2 => (h.2 w B args' h1 h2).mono fun e w' hh => ?_⟩
  obtain ⟨b, A, S, rfl, q2, q3, q4, q5⟩ := hh
  exact ⟨b, _, S, rfl, q2, q3, q4, himp _ _ _ q5⟩

attribute [local irreducible] Fn FnN OpVC Ob RowFn ObS NewS

/-! ### The track's objects -/
structure FreeOk (cur : List Value) (p m c : Nat) (Fr : List Int) : Prop where
  fit : p + c ≤ cur.length
  le : m ≤ c
  is : (cur.drop p).take m = Fr.map (Value.int .i64)
theorem FreeOk.len {cur : List Value} {p m c : Nat} {Fr : List Int} (h : FreeOk cur p m c Fr) : m = Fr.length := by
  have h1 := congrArg List.length h.is
  rw [List.length_take, List.length_drop, List.length_map] at h1
  have := h.fit; have := h.le
  omega
abbrev exD (g p m c : Nat) : D := .v (.slice (some ⟨g, p, none⟩) m c)
abbrev trX (lo hi : Int) (L : List Sl) (n : Nat) (B : List En) (g p m c : Nat) (now : Int) (W : List Al) : List D := [.sp (slA lo hi L n), rowsN B, exD g p m c, .sp (whA now W)]
abbrev trH (lo hi : Int) (L : List Sl) (n : Nat) (B : List En) (g p m c : Nat) (cur : List Value) (now : Int) (W : List Al) (S1 S3 S4 : Nat → Prop) : List (Nat × LO) :=
  [(0, .cells 61 [.loc 1 0, .grow 2, exD g p m c, .loc 4 0]), (1, .obj (.sep S1 (slA lo hi L n))), (2, .grow En 39 13 enD B), (3, .obj (.sep S3 (blkA g (celO 3 cur)))), (4, .obj (.sep S4 (whA now W)))]
def trF (lo hi : Int) (N : Nat) (S : List En) (now : Int) : Fam := fun H nx => ∃ L n B g p m c cur W S1 S3 S4 S0 Fr, H = trH lo hi L n B g p m c cur now W S1 S3 S4 ∧ 5 ≤ nx ∧ TInv lo hi N L n B Fr now W S0 S ∧ FreeOk cur p m c Fr ∧ 0 ≤ now
abbrev trA (lo hi : Int) (N : Nat) (S : List En) (now : Int) : SepA := sepOf (trF lo hi N S now)
def trN (lo hi : Int) (N : Nat) (now : Int) : Fam := fun H nx => ∃ S1 S4, H = [(0, .cells 61 [.loc 1 0, .grow 2, .grow 3, .loc 4 0]), (1, .obj (.sep S1 (slA lo hi (List.replicate N sl0) 0))), (2, .grow En 39 13 enD (List.replicate N en0)), (3, .grow Int 3 1 (fun i => [intD i]) ((List.range N).map Int.ofNat)), (4, .obj (.sep S4 (whA now [])))] ∧ nx = 5

/-! ### Looking -/
section
variable (lo hi : Int) (L : List Sl) (n : Nat) (B : List En) (g p m c : Nat) (now : Int) (W : List Al)
theorem tnow_fn : FnN Tryz.prog 18 [.fp (trX lo hi L n B g p m c now W)] fun d => d = intD now := by
  refine fnNOf [] Tryz.func18 rfl (by kernel_rfl) (Nat.le_of_ble_eq_true rfl) ?_
  conv => whnf
  refine CallVC.look (wnow_fn now W) rfl ?_
  rintro _ rfl
  conv => whnf
  exact ⟨rfl, rfl⟩
theorem tlen_fn : FnN Tryz.prog 19 [.fp (trX lo hi L n B g p m c now W)] fun d => d = intD n := by
  refine fnNOf [] Tryz.func19 rfl (by kernel_rfl) (Nat.le_of_ble_eq_true rfl) ?_
  conv => whnf
  refine CallVC.look (sl_look (len_fn lo hi L n) ⟨_, Tryz.func42, rfl⟩) rfl ?_
  rintro _ rfl
  conv => whnf
  exact ⟨rfl, rfl⟩
theorem tsize_fn : FnN Tryz.prog 6 [.fp (trX lo hi L n B g p m c now W)] fun d => d = intD L.length := by
  refine fnNOf [] Tryz.func6 rfl (by kernel_rfl) (Nat.le_of_ble_eq_true rfl) ?_
  conv => whnf
  refine CallVC.look (sl_look (size_fn lo hi L n) ⟨_, Tryz.func26, rfl⟩) rfl ?_
  rintro _ rfl
  conv => whnf
  exact ⟨rfl, rfl⟩
theorem tfind_fn (hs : SlOk lo hi L n) {f : Fl} (hf : FlOk f) : FnN Tryz.prog 29 [.fp (trX lo hi L n B g p m c now W), .agg (flD f)] fun d => d = match fnd L f (homeN lo hi L.length f) L.length 0 with
    | (_, _, false) => .tup [intD 0, boolD false]
    | (p, _, true) => .tup [intD (at_ L p).v, boolD true] := by
  refine fnNOf [] Tryz.func29 rfl (by kernel_rfl) (Nat.le_of_ble_eq_true rfl) ?_
  have hg := sl_look (get_fn lo hi L n hs hf) ⟨_, Tryz.func46, rfl⟩
  generalize fnd L f (homeN lo hi L.length f) L.length 0 = q at hg ⊢
  obtain ⟨a, b, is⟩ := q
  conv => whnf
  refine CallVC.look hg rfl ?_
  rintro _ rfl
  cases is with
  | true =>
    dsimp only
    conv => whnf
    exact ⟨rfl, rfl⟩
  | false =>
    dsimp only
    conv => whnf
    exact ⟨rfl, rfl⟩
theorem may_fn (w : Int) : Fn Tryz.prog 28 [intD w] fun d => d = boolD (decide (1 ≤ w ∧ w ≤ 4095)) := by
  refine fnOf [] Tryz.func28 rfl (by kernel_rfl) (Nat.le_of_ble_eq_true rfl) ?_
  conv => whnf
  refine Fork.intro (fun h1 => ?_) (fun h1 => ?_)
  · have h1 := of_decide_eq_true h1
    conv => whnf
    rw [show decide (1 ≤ w ∧ w ≤ 4095) = decide (w ≤ 4095) from decide_eq_decide.2 (by omega)]
  · have h1 := of_decide_eq_false h1
    conv => whnf
    rw [decide_eq_false (fun h => h1 h.1)]
end
end Go.Proofs.YtcbpdjikdohegaaGreat.V
namespace Go.Proofs.YtcbpdjikdohegaaGreat.V
open Go.RowKit
attribute [local irreducible] Fn FnN OpVC Ob RowFn ObS NewS

abbrev nums (k : Nat) : List Int := (List.range k).map Int.ofNat
theorem nums_next (k : Nat) : nums (k + 1) = nums k ++ [(k : Int)] := by
  unfold nums
  rw [List.range_succ, List.map_append]; rfl
theorem nums_len (k : Nat) : (nums k).length = k := by simp [nums]

theorem tnew_new (lo hi n now : Int) : NewS Tryz.prog 4 [intD n, .agg [u64D lo, u64D hi], intD now] fun A => A = sepOf (trN lo hi (slN n) (newN now)) := by
  refine newOf [] Tryz.func4 rfl (by kernel_rfl) (by decide) (Nat.le_of_ble_eq_true rfl) ?_
  have hN := slN_in n
  have hlen : (List.replicate (slN n) sl0).length = slN n := List.length_replicate
  have hls : FnN Tryz.prog 26 [.sp (slA lo hi (List.replicate (slN n) sl0) 0)] fun d => d = intD (slN n) := by
    have h := sl_look (size_fn lo hi (List.replicate (slN n) sl0) 0) ⟨_, Tryz.func26, rfl⟩
    rw [hlen] at h
    exact h
  have hsn := new_new lo hi n
  have hwn := wnew_new now
  generalize slN n = N at *
  conv => whnf
  refine CallVC.news hsn rfl ?_
  rintro _ S1 rfl
  conv => whnf
  refine CallVC.news hwn rfl ?_
  rintro _ S4 rfl
  conv => whnf
  refine CallVC.look hls rfl ?_
  rintro _ rfl
  conv => whnf
  refine op_makeSlice (n := (N : Int)) (β := En) (enc := enD) (zz := en0) ttH rfl rfl rfl rfl rfl (by decide) rfl ⟨by omega, by omega, by show _ * 56 ≤ _; omega⟩ rfl ?_
  rw [Int.toNat_natCast]
  conv => whnf
  have hB : (List.replicate N en0).length = N := List.length_replicate
  generalize hBB : List.replicate N en0 = B at *
  refine ⟨Nat, fun k => ⟨[(30, intD k), (29, intD B.length), (7, .loc 0 0)], [(0, .cells 61 [.loc 1 0, .grow 2, .grow 3, .loc 4 0]), (1, .obj (.sep S1 (slA lo hi (List.replicate N sl0) 0))), (2, .grow En 39 13 enD B), (3, .grow Int 3 1 (fun i => [intD i]) (nums k)), (4, .obj (.sep S4 (whA (newN now) [])))], 5, ([], 0)⟩, fun k => k ≤ N, fun k => N - k, ⟨0, [(0, 3), (2, 4), (4, 2), (3, 70)], [3], ?_, Nat.zero_le _⟩, ?_⟩
  · repeat' (first | exact trivial | exact .inl (DLe.refl _) | exact .inl (DLe.nil _ _) | (refine .inr ⟨rfl, _, ?_, rfl⟩; rfl) | exact rfl | exact Nat.zero_le _ | constructor)
  · intro k hk
    replace hk : k ≤ N := hk
    conv => whnf
    refine Fork.intro (fun h1 => ?_) (fun h1 => ?_)
    · have h1 : (k : Int) < B.length := of_decide_eq_true h1
      have hl : (nums k).length = k := nums_len k
      conv => whnf
      (refine ⟨Nat.le_of_ble_eq_true rfl, ?_⟩; conv => whnf)
      refine ⟨Int, fun i => [intD i], nums (k + 1), ?_, fun _ => rfl, by rw [nums_len]; omega, by rw [nums_len]; show _ * 8 ≤ _; omega, rfl, ?_⟩
      · rw [nums_next, List.map_append]; rfl
      conv => whnf
      rw [wrap_next (show k < 300 by omega) (by omega)]
      refine ⟨k + 1, [(3, 5)], [], ?_, by show k + 1 ≤ N; omega, by show N - (k + 1) < N - k; omega⟩
      repeat' (first | exact trivial | exact .inl (DLe.refl _) | exact .inl (DLe.nil _ _) | (refine .inr ⟨rfl, _, ?_, rfl⟩; rfl) | exact rfl | exact Nat.zero_le _ | constructor)
    · have h1 : ¬ (k : Int) < B.length := of_decide_eq_false h1
      obtain rfl : k = N := by omega
      conv => whnf
      refine ⟨[], [], [(0, .cells 61 [.loc 1 0, .grow 2, .grow 3, .loc 4 0]), (1, .obj (.sep S1 (slA lo hi (List.replicate k sl0) 0))), (2, .grow En 39 13 enD B), (3, .grow Int 3 1 (fun i => [intD i]) (nums k)), (4, .obj (.sep S4 (whA (newN now) [])))], 5, ?_, by decide, trN lo hi k (newN now), ⟨S1, S4, by rw [hBB], rfl⟩, rfl⟩
      repeat' (first | exact trivial | exact .inl (DLe.refl _) | exact .inl (DLe.nil _ _) | (refine .inr ⟨rfl, _, ?_, rfl⟩; rfl) | exact rfl | exact Nat.zero_le _ | constructor)

theorem tr_exact {lo hi : Int} {N : Nat} {now : Int} (hN : 1 ≤ N ∧ N ≤ 256) (h0 : 0 ≤ now) (C : Ctx) (b : Nat) (S : Nat → Prop) (h : SepR (trN lo hi N now) C b S) : SepR (trF lo hi N [] now) C b S := by
  obtain ⟨H, nx, σ, τ, ⟨S1, S4, rfl, rfl⟩, hb, _, hS, hr⟩ := h
  have l3 := hr.grow 3 Int 3 1 (fun i => [intD i]) (nums N) rfl
  obtain ⟨hm3, xs, ⟨hxl, hown⟩, _, hrep3⟩ := l3
  rw [nums_len, Nat.mul_one] at hxl
  have hpos : 0 < N := hN.1
  obtain ⟨g, cap, cur, hv, _, hg, hnc, _, hcs, htk⟩ : ∃ g cap cur, τ 3 = .slice (some ⟨g, 0, none⟩) (nums N).length cap ∧ 0 ≤ g ∧ C.w.heap[g]? = some (.cells cur 3 (0, 0)) ∧ (nums N).length ≤ cap ∧ cap ≤ maxLen ∧ cur.size = cap * 1 ∧ cur.toList.take ((nums N).length * 1) = xs := by
    rcases hown with ⟨_, h⟩ | h
    · rw [nums_len] at h; omega
    · exact h
  rw [nums_len] at hv hnc htk
  rw [Nat.mul_one] at hcs htk
  have hxs : xs = (nums N).map (Value.int .i64) := by
    refine List.ext_getElem? fun i => ?_
    rw [List.getElem?_map]
    by_cases hi : i < N
    · obtain ⟨y, hy⟩ : ∃ y, (nums N)[i]? = some y := ⟨_, List.getElem?_eq_getElem (by rw [nums_len]; exact hi)⟩
      obtain ⟨u, hu⟩ : ∃ u, xs[i]? = some u := ⟨_, List.getElem?_eq_getElem (by omega)⟩
      rw [hy, hu]
      have := rep_v (hrep3 i y 0 (intD y) u hy rfl (by simpa using hu))
      rw [this]; rfl
    · rw [List.getElem?_eq_none (by omega), List.getElem?_eq_none (by rw [nums_len]; omega)]; rfl
  let S3 : Nat → Prop := fun k => k = g
  let H' : List (Nat × LO) := trH lo hi (List.replicate N sl0) 0 (List.replicate N en0) g 0 N cap cur.toList now [] S1 S3 S4
  let σ' : Nat → Nat := setN σ 3 g
  have hσ : ∀ i, i ≠ 3 → σ' i = σ i := fun i hi => by simp [σ', setN, hi]
  have hσ3 : σ' 3 = g := by simp [σ', setN]
  have hob : ∀ id k, owned H' σ' τ id k ↔ owned [(0, .cells 61 [.loc 1 0, .grow 2, .grow 3, .loc 4 0]), (1, .obj (.sep S1 (slA lo hi (List.replicate N sl0) 0))), (2, .grow En 39 13 enD (List.replicate N en0)), (3, .grow Int 3 1 (fun i => [intD i]) (nums N)), (4, .obj (.sep S4 (whA now [])))] σ τ id k := by
    intro id k
    have e3 : (τ 3).ownBlock = some g := by rw [hv]; rfl
    constructor
    · rintro (⟨el, l, h1, rfl⟩ | ⟨α, el, e, enc, L, h1, h2⟩ | ⟨o, h1, h2⟩)
      · match id, h1 with
        | 0, h1 => exact .inl ⟨_, _, rfl, hσ 0 (by decide)⟩
        | _ + 5, h1 => cases (show (none : Option LO) = some _ from h1)
      · match id, h1 with
        | 2, h1 => exact .inr (.inl ⟨_, _, _, _, _, rfl, h2⟩)
        | _ + 5, h1 => cases (show (none : Option LO) = some _ from h1)
      · match id, h1 with
        | 1, h1 => injection h1 with h1; injection h1 with h1; subst h1; exact .inr (.inr ⟨_, rfl, h2⟩)
        | 3, h1 =>
          injection h1 with h1; injection h1 with h1; subst h1
          have h2 : k = g := h2
          subst h2
          exact .inr (.inl ⟨_, _, _, _, _, rfl, e3⟩)
        | 4, h1 => injection h1 with h1; injection h1 with h1; subst h1; exact .inr (.inr ⟨_, rfl, h2⟩)
    · rintro (⟨el, l, h1, rfl⟩ | ⟨α, el, e, enc, L, h1, h2⟩ | ⟨o, h1, h2⟩)
      · match id, h1 with
        | 0, h1 => exact .inl ⟨_, _, rfl, (hσ 0 (by decide)).symm⟩
        | _ + 5, h1 => cases (show (none : Option LO) = some _ from h1)
      · match id, h1 with
        | 2, h1 => exact .inr (.inl ⟨_, _, _, _, _, rfl, h2⟩)
        | 3, h1 =>
          rw [e3] at h2; injection h2 with h2
          exact .inr (.inr ⟨_, rfl, h2.symm⟩)
        | _ + 5, h1 => cases (show (none : Option LO) = some _ from h1)
      · match id, h1 with
        | 1, h1 => injection h1 with h1; injection h1 with h1; subst h1; exact .inr (.inr ⟨_, rfl, h2⟩)
        | 4, h1 => injection h1 with h1; injection h1 with h1; subst h1; exact .inr (.inr ⟨_, rfl, h2⟩)
  have hst : ∀ nx, (ctxOf (sepEnv C S) H' nx σ' τ C.w).still = (ctxOf (sepEnv C S) [(0, .cells 61 [.loc 1 0, .grow 2, .grow 3, .loc 4 0]), (1, .obj (.sep S1 (slA lo hi (List.replicate N sl0) 0))), (2, .grow En 39 13 enD (List.replicate N en0)), (3, .grow Int 3 1 (fun i => [intD i]) (nums N)), (4, .obj (.sep S4 (whA now [])))] nx σ τ C.w).still := fun nx => by
    unfold Ctx.still ctxOf
    simp only [hob]
  refine ⟨H', 5, σ', τ, ⟨_, _, _, g, 0, N, cap, cur.toList, [], S1, S3, S4, [], nums N, rfl, Nat.le_refl _, ⟨?_, List.length_replicate, rfl, by simp, (fun _ h => by cases h), .refl _, (fun _ h => by cases h)⟩, ⟨by rw [Array.length_toList]; omega, hnc, ?_⟩, h0⟩, (hσ 0 (by decide)).trans hb, by decide, fun k => (hS k).trans ⟨fun ⟨id, h⟩ => ⟨id, (hob id k).2 h⟩, fun ⟨id, h⟩ => ⟨id, (hob id k).1 h⟩⟩, ?_⟩
  · have := SRel.new lo hi (N : Int)
    have e : slN (N : Int) = N := by unfold slN; omega
    rw [e] at this
    exact this
  · rw [List.drop_zero, htk, hxs]
  refine ⟨hr.kept, hr.few, fun id el l h => ?_, fun id α el e enc L h => ?_, fun i j k h1 h2 => hr.apart i j k ((hob _ _).1 h1) ((hob _ _).1 h2), fun id o h => ?_, hr.slices, fun id o h => ?_⟩
  · match id, h with
    | 0, h =>
      injection h with h; injection h with e1 e2; subst e1 e2
      obtain ⟨q1, c, q2, q3, q4⟩ := hr.cells 0 _ _ rfl
      rw [hσ 0 (by decide)]
      refine ⟨q1, c, q2, q3, fun j d u hd hu => ?_⟩
      match j, hd with
      | 0, hd =>
        injection hd with hd; subst hd
        have := q4 0 _ u rfl hu
        cases this with
        | loc hl => exact .loc ⟨by decide, by rw [hσ 1 (by decide)]; exact hl.2⟩
      | 1, hd =>
        injection hd with hd; subst hd
        have := q4 1 _ u rfl hu
        cases this with
        | grow hl => exact .grow hl
      | 2, hd =>
        injection hd with hd; subst hd
        have := q4 2 _ u rfl hu
        cases this with
        | grow hl =>
          rw [show u = _ from hl.2, hv]
          exact .v
      | 3, hd =>
        injection hd with hd; subst hd
        have := q4 3 _ u rfl hu
        cases this with
        | loc hl => exact .loc ⟨by decide, by rw [hσ 4 (by decide)]; exact hl.2⟩
    | _ + 5, h => cases (show (none : Option LO) = some _ from h)
  · match id, h with
    | 2, h =>
      obtain ⟨q1, ys, q2, q3, q4⟩ := hr.grow 2 α el e enc L h
      exact ⟨q1, ys, q2, q3, fun i x j d u hx hd hu => by rw [hst]; exact q4 i x j d u hx hd hu⟩
    | _ + 5, h => cases (show (none : Option LO) = some _ from h)
  · match id, h with
    | 0, h => decide
    | 1, h => decide
    | 2, h => decide
    | 3, h => decide
    | 4, h => decide
    | _ + 5, h => cases (show (none : Option LO) = some _ from h)
  · match id, h with
    | 1, h =>
      injection h with h; injection h with h; subst h
      obtain ⟨q1, q2⟩ := hr.obj 1 _ rfl
      rw [hσ 1 (by decide), hst]
      exact ⟨q1, q2⟩
    | 3, h =>
      injection h with h; injection h with h; subst h
      rw [hσ3]
      have hgl : g < C.w.heap.size := (Array.getElem?_eq_some_iff.1 hg).1
      refine ⟨fun k hk => ?_, rfl, fun _ => Iff.rfl, ?_⟩
      · have hk : k = g := hk
        subst hk
        exact ⟨hm3 k (by rw [hv]; rfl), hgl⟩
      · show C.w.heap[g]? = _
        rw [hg]
        unfold celO
        congr 2
    | 4, h =>
      injection h with h; injection h with h; subst h
      obtain ⟨q1, q2⟩ := hr.obj 4 _ rfl
      rw [hσ 4 (by decide), hst]
      exact ⟨q1, q2⟩

theorem tnew (lo hi n now : Int) : NewS Tryz.prog 4 [intD n, .agg [u64D lo, u64D hi], intD now] fun A => A = trA lo hi (slN n) [] (newN now) :=
  (tnew_new lo hi n now).imp fun C b S h => tr_exact (slN_in n) (newN_in now).1 C b S h
end Go.Proofs.YtcbpdjikdohegaaGreat.V
namespace Go.Proofs.YtcbpdjikdohegaaGreat.V
open Go.RowKit
attribute [local irreducible] Fn FnN OpVC Ob RowFn ObS NewS

theorem set_is {now : Int} {W : List Al} {a : Al} (h1 : now < a.at_) (h2 : a.at_ ≤ now + 4095) (h3 : ∀ x, x ∈ W → x.id ≠ a.id) : setL now W a = insF a W := by
  have h4 : W.any (isId a.id) = false := List.any_eq_false.2 fun x hx => by unfold isId; simp [h3 x hx]
  have hq : setQ now W a = true := by
    unfold setQ
    rw [findI_nonneg, h4, decide_eq_false (show ¬ a.at_ ≤ now by omega), decide_eq_false (show ¬ now + 4095 < a.at_ by omega)]
  unfold setL
  rw [hq]
theorem FreeOk.next {cur : List Value} {p c : Nat} {i : Int} {Fr : List Int} (h : FreeOk cur p (Fr.length + 1) c (i :: Fr)) : FreeOk cur (if c = 1 then p else p + 1 * 1) (Fr.length + 1 - 1) (c - 1) Fr := by
  obtain ⟨h1, h2, h3⟩ := h
  by_cases hc : c = 1
  · rw [if_pos hc]
    have : Fr = [] := List.eq_nil_of_length_eq_zero (by omega)
    subst this
    exact ⟨by omega, by simp, by simp⟩
  · rw [if_neg hc]
    refine ⟨by omega, by omega, ?_⟩
    have := congrArg List.tail h3
    rw [List.map_cons, List.tail_cons] at this
    rw [← this]
    cases hd : cur.drop p with
    | nil => rw [hd] at h3; simp at h3
    | cons x r =>
      have e : cur.drop (p + 1 * 1) = r := by rw [Nat.one_mul, ← List.drop_drop, hd]; rfl
      rw [e, List.take_succ_cons, List.tail_cons, Nat.add_sub_cancel]

def addS (N : Nat) (S : List En) (now : Int) (e : En) (w : Int) : Int × List En := match decide (1 ≤ w ∧ w ≤ 4095) with
  | false => (2, S)
  | true => match S.findIdx? (isFl e.f) with
    | some _ => (9, S)
    | none => match decide (S.length = N) with
      | true => (7, S)
      | false => (0, S.take (jOf e.f S) ++ { e with at_ := now + w } :: S.drop (jOf e.f S))

theorem tadd_obs (lo hi : Int) (N : Nat) (S : List En) (now : Int) (e : En) (w : Int) (hf : FlOk e.f) (hn : now ≤ 1099511400000) (hS : S.length ≤ 90) :
    ObS Tryz.prog 7 (trA lo hi N S now) [.agg (enD e), intD w] fun d A' => d = intD (addS N S now e w).1 ∧ A' = trA lo hi N (addS N S now e w).2 now := by
  refine obsOfC [(12, [1000])] Tryz.func7 rfl (by kernel_rfl) (Nat.le_of_ble_eq_true rfl) ?_
  rintro _ nx ⟨L, n, B, g, p, m, c, cur, W, S1, S3, S4, S0, Fr, rfl, hnx, hT, hFr, hn0⟩
  refine ⟨[], [], ⟨enumD (.loc 0 0 :: [.agg (enD e), intD w]) 0, trH lo hi L n B g p m c cur now W S1 S3 S4, 5, ([0], 1)⟩, ?_, ?_⟩
  · repeat' (first | exact trivial | exact .inl (DLe.refl _) | exact .inl (DLe.nil _ _) | (refine .inr ⟨rfl, _, ?_, rfl⟩; rfl) | exact rfl | exact Nat.zero_le _ | constructor)
  have hfind := tfind_fn lo hi L n B g p m c now W hT.rel.ok hf
  obtain ⟨l1, l2, l3, l4, l5, l6⟩ := hT.free_len
  have hmay := may_fn w
  unfold addS
  cases g1 : decide (1 ≤ w ∧ w ≤ 4095) with
  | false =>
    rw [g1] at hmay
    conv => whnf
    refine CallVC.pure hmay rfl ?_
    rintro _ rfl
    conv => whnf
    refine ⟨[], [], intD 2, trH lo hi L n B g p m c cur now W S1 S3 S4, [], 5, ?_, rfl, trF lo hi N S now, ⟨L, n, B, g, p, m, c, cur, W, S1, S3, S4, S0, Fr, rfl, Nat.le_refl _, hT, hFr, hn0⟩, rfl, rfl⟩
    repeat' (first | exact trivial | exact .inl (DLe.refl _) | exact .inl (DLe.nil _ _) | (refine .inr ⟨rfl, _, ?_, rfl⟩; rfl) | exact rfl | exact Nat.zero_le _ | constructor)
  | true =>
  rw [g1] at hmay
  have g1 := of_decide_eq_true g1
  conv => whnf
  refine CallVC.pure hmay rfl ?_
  rintro _ rfl
  conv => whnf
  refine CallVC.look hfind rfl ?_
  rintro _ rfl
  cases hq : fnd L e.f (homeN lo hi L.length e.f) L.length 0 with
  | mk a q =>
  obtain ⟨b, is⟩ := q
  cases is with
  | true =>
    obtain ⟨k, k1, _⟩ := hT.find_is hq
    rw [k1]
    dsimp only
    conv => whnf
    refine ⟨[], [], intD 9, trH lo hi L n B g p m c cur now W S1 S3 S4, [], 5, ?_, rfl, trF lo hi N S now, ⟨L, n, B, g, p, m, c, cur, W, S1, S3, S4, S0, Fr, rfl, Nat.le_refl _, hT, hFr, hn0⟩, rfl, rfl⟩
    repeat' (first | exact trivial | exact .inl (DLe.refl _) | exact .inl (DLe.nil _ _) | (refine .inr ⟨rfl, _, ?_, rfl⟩; rfl) | exact rfl | exact Nat.zero_le _ | constructor)
  | false =>
  have k1 := hT.find_not hq
  rw [k1]
  dsimp only
  conv => whnf
  refine pv_len ttH rfl rfl rfl ?_
  conv => whnf
  have hm := hFr.len
  cases Fr with
  | nil =>
    rw [List.length_nil] at hm l1
    subst hm
    rw [decide_eq_true (show S.length = N by omega)]
    conv => whnf
    refine ⟨[], [], intD 7, trH lo hi L n B g p 0 c cur now W S1 S3 S4, [], 5, ?_, rfl, trF lo hi N S now, ⟨L, n, B, g, p, 0, c, cur, W, S1, S3, S4, S0, [], rfl, Nat.le_refl _, hT, hFr, hn0⟩, rfl, rfl⟩
    repeat' (first | exact trivial | exact .inl (DLe.refl _) | exact .inl (DLe.nil _ _) | (refine .inr ⟨rfl, _, ?_, rfl⟩; rfl) | exact rfl | exact Nat.zero_le _ | constructor)
  | cons i Fr =>
  rw [List.length_cons] at hm l1
  subst hm
  rw [decide_eq_false (show ¬ S.length = N by omega)]
  have hiN := hT.num_in (List.mem_append_right _ (.head _ : i ∈ i :: Fr))
  have hcur : cur[p]? = some (.int .i64 i) := by
    have h1 := congrArg (fun l => l[0]?) hFr.is
    simp only [List.getElem?_take_of_lt (Nat.succ_pos _), List.getElem?_drop, Nat.add_zero, List.map_cons, List.getElem?_cons_zero] at h1
    exact h1
  have hle := hFr.le
  have hput := put_obs lo hi L n hT.rel.ok hf i
  have hpv : slPut lo hi L n e.f i = (0, L.set a ⟨e.f, i, true⟩, n + 1) := by
    unfold slPut
    rw [hq]
    dsimp only
    rw [decide_eq_false (show ¬ (n : Int) = L.length by omega)]
  rw [hpv] at hput
  have hw : IntKind.i64.wrap (now + w) = now + w := IntWalk.i64_in _ (by omega)
  rw [decide_eq_false (show ¬ ((Fr.length + 1 : Nat) : Int) = 0 by omega)]
  conv => whnf
  refine pv_index (g := g) (p := p) (n := Fr.length + 1) (c := c) (m := 0) ttH rfl rfl rfl rfl (Int.le_refl 0) (by omega) ?_
  conv => whnf
  refine pv_load ttH (id := 3) rfl rfl rfl rfl hcur ?_
  conv => whnf
  refine pv_slice (g := g) (p := p) (n := Fr.length + 1) (c := c) (m := 1) ttH rfl rfl rfl rfl (by omega) (by omega) ?_
  conv => whnf
  generalize hp' : (if c = 1 then p else p + 1 * 1) = p'
  refine ⟨Nat → Prop, fun S1' => ⟨[(9, intD i), (4, .loc 5 0), (2, intD w), (0, .loc 0 0)], (5, .cells 39 (enD e)) :: trH lo hi (L.set a ⟨e.f, i, true⟩) (n + 1) B g p' (Fr.length + 1 - 1) (c - 1) cur now W S1' S3 S4, 6, ([0], 1)⟩, ?_, fun S1' => ?_⟩
  · conv => whnf
    refine ⟨?_, ?_, trivial⟩
    · conv => whnf
      refine ⟨?_, trivial⟩
      conv => whnf
      refine ⟨?_, trivial⟩
      conv => whnf
      refine CallVC.obs hput rfl rfl ?_
      rintro _ _ S1' ⟨rfl, rfl⟩
      conv => whnf
      refine ⟨S1', [], [], ?_⟩
      repeat' (first | exact trivial | exact .inl (DLe.refl _) | exact .inl (DLe.nil _ _) | (refine .inr ⟨rfl, _, ?_, rfl⟩; rfl) | exact rfl | exact Nat.zero_le _ | constructor)
    · conv => whnf
      refine ⟨?_, trivial⟩
      conv => whnf
      refine ⟨?_, trivial⟩
      conv => whnf
      refine CallVC.obs hput rfl rfl ?_
      rintro _ _ S1' ⟨rfl, rfl⟩
      conv => whnf
      refine ⟨S1', [], [], ?_⟩
      repeat' (first | exact trivial | exact .inl (DLe.refl _) | exact .inl (DLe.nil _ _) | (refine .inr ⟨rfl, _, ?_, rfl⟩; rfl) | exact rfl | exact Nat.zero_le _ | constructor)
  conv => whnf
  refine goIn [(3, [1000])] Tryz.func31 rfl (by kernel_rfl) (Nat.le_of_ble_eq_true rfl) ?_
  conv => whnf
  refine CallVC.look (tnow_fn lo hi (L.set a ⟨e.f, i, true⟩) (n + 1) B g p' (Fr.length + 1 - 1) (c - 1) now W) rfl ?_
  rintro _ rfl
  conv => whnf
  rw [hw]
  have hBl := hT.len
  refine ⟨rfl, ⟨hiN.1, by rw [hBl]; exact hiN.2⟩, ?_⟩
  conv => whnf
  refine ⟨rfl, by omega, fun x hx => ?_⟩
  conv => whnf
  refine ⟨rfl, { e with at_ := now + w }, rfl, ?_⟩
  conv => whnf
  have hset := wset_obs now W ⟨i, now + w⟩ (by omega) (by show now + w ≤ _; omega) (by omega)
  have hnew : setL now W ⟨i, now + w⟩ = insF ⟨i, now + w⟩ W := set_is (by show now < now + w; omega) (by show now + w ≤ now + 4095; omega) fun x hx => by
    obtain ⟨y, hy, rfl⟩ := List.mem_map.1 (hT.al.mem_iff.1 hx)
    exact (List.nodup_append.1 hT.nodup).2.2 y.at_ (List.mem_map.2 ⟨y, hy, rfl⟩) i (.head _)
  rw [hnew] at hset
  refine ⟨Nat → Prop, fun S4' => ⟨[], (5, .cells 39 (enD e)) :: trH lo hi (L.set a ⟨e.f, i, true⟩) (n + 1) (B.set i.toNat { e with at_ := now + w }) g p' (Fr.length + 1 - 1) (c - 1) cur now (insF ⟨i, now + w⟩ W) S1' S3 S4', 6, (upto 6 0, 6)⟩, ?_, fun S4' => ?_⟩
  · conv => whnf
    refine ⟨?_, ?_, trivial⟩
    · conv => whnf
      refine ⟨?_, trivial⟩
      conv => whnf
      refine ⟨?_, trivial⟩
      conv => whnf
      refine CallVC.obs hset rfl rfl ?_
      rintro _ _ S4' ⟨rfl, rfl⟩
      conv => whnf
      refine ⟨S4', [], [], ?_⟩
      repeat' (first | exact trivial | exact .inl (DLe.refl _) | exact .inl (DLe.nil _ _) | (refine .inr ⟨rfl, _, ?_, rfl⟩; rfl) | exact rfl | exact Nat.zero_le _ | constructor)
    · conv => whnf
      refine ⟨?_, trivial⟩
      conv => whnf
      refine ⟨?_, trivial⟩
      conv => whnf
      refine CallVC.obs hset rfl rfl ?_
      rintro _ _ S4' ⟨rfl, rfl⟩
      conv => whnf
      refine ⟨S4', [], [], ?_⟩
      repeat' (first | exact trivial | exact .inl (DLe.refl _) | exact .inl (DLe.nil _ _) | (refine .inr ⟨rfl, _, ?_, rfl⟩; rfl) | exact rfl | exact Nat.zero_le _ | constructor)
  conv => whnf
  have hT2 := hT.add { e with at_ := now + w } hf hq (show now < now + w ∧ now + w ≤ now + 4095 by omega) (insF_perm ⟨i, now + w⟩ W)
  refine ⟨[], [], intD 0, trH lo hi (L.set a ⟨e.f, i, true⟩) (n + 1) (B.set i.toNat { e with at_ := now + w }) g p' (Fr.length + 1 - 1) (c - 1) cur now (insF ⟨i, now + w⟩ W) S1' S3 S4', [], 5, ?_, rfl, trF lo hi N _ now, ⟨_, _, _, g, p', _, _, cur, _, S1', S3, S4', _, Fr, rfl, Nat.le_refl _, hT2, ?_, hn0⟩, rfl, rfl⟩
  · repeat' (first | exact trivial | exact .inl (DLe.refl _) | exact .inl (DLe.nil _ _) | (refine .inr ⟨rfl, _, ?_, rfl⟩; rfl) | exact rfl | exact Nat.zero_le _ | constructor)
  · rw [← hp']; exact hFr.next
end Go.Proofs.YtcbpdjikdohegaaGreat.V
namespace Go.Proofs.YtcbpdjikdohegaaGreat.V
open Go.RowKit
attribute [local irreducible] Fn FnN OpVC Ob RowFn ObS NewS

def keepS (S : List En) (now : Int) (e : En) (w : Int) : Bool × List En := match S.findIdx? (isFl e.f) with
  | none => (false, S)
  | some k => match decide (1 ≤ w ∧ w ≤ 4095) with
    | false => (false, S)
    | true => (true, S.set k { e with at_ := now + w })

theorem tkeep_obs (lo hi : Int) (N : Nat) (S : List En) (now : Int) (e : En) (w : Int) (hf : FlOk e.f) (hn : now ≤ 1099511400000) (hS : S.length ≤ 90) :
    ObS Tryz.prog 9 (trA lo hi N S now) [.agg (enD e), intD w] fun d A' => d = boolD (keepS S now e w).1 ∧ A' = trA lo hi N (keepS S now e w).2 now := by
  refine obsOfC [] Tryz.func9 rfl (by kernel_rfl) (Nat.le_of_ble_eq_true rfl) ?_
  rintro _ nx ⟨L, n, B, g, p, m, c, cur, W, S1, S3, S4, S0, Fr, rfl, hnx, hT, hFr, hn0⟩
  refine ⟨[], [], ⟨enumD (.loc 0 0 :: [.agg (enD e), intD w]) 0, trH lo hi L n B g p m c cur now W S1 S3 S4, 5, ([0], 1)⟩, ?_, ?_⟩
  · repeat' (first | exact trivial | exact .inl (DLe.refl _) | exact .inl (DLe.nil _ _) | (refine .inr ⟨rfl, _, ?_, rfl⟩; rfl) | exact rfl | exact Nat.zero_le _ | constructor)
  have hfind := tfind_fn lo hi L n B g p m c now W hT.rel.ok hf
  obtain ⟨l1, l2, l3, l4, l5, l6⟩ := hT.free_len
  have hmay := may_fn w
  unfold keepS
  conv => whnf
  refine CallVC.look hfind rfl ?_
  rintro _ rfl
  cases hq : fnd L e.f (homeN lo hi L.length e.f) L.length 0 with
  | mk a q =>
  obtain ⟨b, is⟩ := q
  cases is with
  | false =>
    rw [hT.find_not hq]
    dsimp only
    conv => whnf
    refine ⟨[], [], boolD false, trH lo hi L n B g p m c cur now W S1 S3 S4, [], 5, ?_, rfl, trF lo hi N S now, ⟨L, n, B, g, p, m, c, cur, W, S1, S3, S4, S0, Fr, rfl, Nat.le_refl _, hT, hFr, hn0⟩, rfl, rfl⟩
    repeat' (first | exact trivial | exact .inl (DLe.refl _) | exact .inl (DLe.nil _ _) | (refine .inr ⟨rfl, _, ?_, rfl⟩; rfl) | exact rfl | exact Nat.zero_le _ | constructor)
  | true =>
  obtain ⟨k, k1, k2, k3, k4, k5⟩ := hT.find_is hq
  rw [k1]
  cases g1 : decide (1 ≤ w ∧ w ≤ 4095) with
  | false =>
    rw [g1] at hmay
    dsimp only
    conv => whnf
    refine CallVC.pure hmay rfl ?_
    rintro _ rfl
    conv => whnf
    refine ⟨[], [], boolD false, trH lo hi L n B g p m c cur now W S1 S3 S4, [], 5, ?_, rfl, trF lo hi N S now, ⟨L, n, B, g, p, m, c, cur, W, S1, S3, S4, S0, Fr, rfl, Nat.le_refl _, hT, hFr, hn0⟩, rfl, rfl⟩
    repeat' (first | exact trivial | exact .inl (DLe.refl _) | exact .inl (DLe.nil _ _) | (refine .inr ⟨rfl, _, ?_, rfl⟩; rfl) | exact rfl | exact Nat.zero_le _ | constructor)
  | true =>
  rw [g1] at hmay
  have g1 := of_decide_eq_true g1
  have hstop := wstop_obs now W (at_ L a).v (by omega)
  have hw : IntKind.i64.wrap (now + w) = now + w := IntWalk.i64_in _ (by omega)
  have hBl := hT.len
  have hk : (enS (at_ L a)).at_ = (at_ L a).v := rfl
  have hT2 := hT.keep k2 { e with at_ := now + w } (k4.symm : e.f = (enS (at_ L a)).f) (show now < now + w ∧ now + w ≤ now + 4095 by omega) (insF_perm ⟨(at_ L a).v, now + w⟩ _)
  rw [hk] at hT2
  have hol : (outOf (at_ L a).v W).length ≤ W.length := List.length_filter_le _ _
  have hset := wset_obs now (outOf (at_ L a).v W) ⟨(at_ L a).v, now + w⟩ (by omega) (by show now + w ≤ _; omega) (by omega)
  rw [set_is (by show now < now + w; omega) (by show now + w ≤ now + 4095; omega) fun x hx => by
    have := (List.mem_filter.1 hx).2
    unfold isId at this
    simpa using this] at hset
  dsimp only
  generalize (at_ L a).v = v at *
  conv => whnf
  refine CallVC.pure hmay rfl ?_
  rintro _ rfl
  conv => whnf
  refine CallVC.obs hstop rfl rfl ?_
  rintro _ _ S4' ⟨rfl, rfl⟩
  conv => whnf
  refine goIn [(3, [1000])] Tryz.func31 rfl (by kernel_rfl) (Nat.le_of_ble_eq_true rfl) ?_
  conv => whnf
  refine CallVC.look (tnow_fn lo hi L n B g p m c now (outOf v W)) rfl ?_
  rintro _ rfl
  conv => whnf
  rw [hw]
  refine ⟨rfl, ⟨k5.1, by rw [hBl]; exact k5.2⟩, ?_⟩
  conv => whnf
  refine ⟨rfl, by omega, fun x hx => ?_⟩
  conv => whnf
  refine ⟨rfl, { e with at_ := now + w }, rfl, ?_⟩
  conv => whnf
  refine ⟨Nat → Prop, fun S4' => ⟨[], trH lo hi L n (B.set v.toNat { e with at_ := now + w }) g p m c cur now (insF ⟨v, now + w⟩ (outOf v W)) S1 S3 S4', 6, (upto 6 0, 6)⟩, ?_, fun S4' => ?_⟩
  · conv => whnf
    refine ⟨?_, ?_, trivial⟩
    · conv => whnf
      refine ⟨?_, trivial⟩
      conv => whnf
      refine ⟨?_, trivial⟩
      conv => whnf
      refine CallVC.obs hset rfl rfl ?_
      rintro _ _ S4' ⟨rfl, rfl⟩
      conv => whnf
      refine ⟨S4', [], [], ?_⟩
      repeat' (first | exact trivial | exact .inl (DLe.refl _) | exact .inl (DLe.nil _ _) | (refine .inr ⟨rfl, _, ?_, rfl⟩; rfl) | exact rfl | exact Nat.zero_le _ | constructor)
    · conv => whnf
      refine ⟨?_, trivial⟩
      conv => whnf
      refine ⟨?_, trivial⟩
      conv => whnf
      refine CallVC.obs hset rfl rfl ?_
      rintro _ _ S4' ⟨rfl, rfl⟩
      conv => whnf
      refine ⟨S4', [], [], ?_⟩
      repeat' (first | exact trivial | exact .inl (DLe.refl _) | exact .inl (DLe.nil _ _) | (refine .inr ⟨rfl, _, ?_, rfl⟩; rfl) | exact rfl | exact Nat.zero_le _ | constructor)
  conv => whnf
  refine ⟨[], [], boolD true, trH lo hi L n (B.set v.toNat { e with at_ := now + w }) g p m c cur now (insF ⟨v, now + w⟩ (outOf v W)) S1 S3 S4', [], 5, ?_, rfl, trF lo hi N _ now, ⟨_, _, _, g, p, _, _, cur, _, S1, S3, S4', _, Fr, rfl, Nat.le_refl _, hT2, hFr, hn0⟩, rfl, rfl⟩
  repeat' (first | exact trivial | exact .inl (DLe.refl _) | exact .inl (DLe.nil _ _) | (refine .inr ⟨rfl, _, ?_, rfl⟩; rfl) | exact rfl | exact Nat.zero_le _ | constructor)
end Go.Proofs.YtcbpdjikdohegaaGreat.V
namespace Go.Proofs.YtcbpdjikdohegaaGreat.V
open Go.RowKit

theorem FreeOk.push_in {cur : List Value} {p m c : Nat} {Fr : List Int} (h : FreeOk cur p m c Fr) (hm : m < c) (v : Int) : FreeOk (cur.set (p + m) (.int .i64 v)) p (m + 1) c (Fr ++ [v]) := by
  obtain ⟨h1, h2, h3⟩ := h
  refine ⟨by rw [List.length_set]; exact h1, hm, ?_⟩
  have hl : p + m < cur.length := by omega
  have e1 : ((cur.set (p + m) (.int .i64 v)).drop p).take m = (cur.drop p).take m := by
    refine List.ext_getElem? fun j => ?_
    by_cases hj : j < m
    · rw [List.getElem?_take_of_lt hj, List.getElem?_take_of_lt hj, List.getElem?_drop, List.getElem?_drop, List.getElem?_set, if_neg (by omega)]
    · rw [List.getElem?_take_eq_none (by omega), List.getElem?_take_eq_none (by omega)]
  rw [List.take_add_one, e1, h3, List.map_append]
  congr 1
  rw [List.getElem?_drop, List.getElem?_set, if_pos rfl, if_pos hl]
  rfl
theorem FreeOk.push_out {cur : List Value} {p m : Nat} {Fr : List Int} (h : FreeOk cur p m m Fr) {c : Nat} (hm : m < c) (v : Int) {rest : List Value} (hr : rest.length = c - (m + 1)) : FreeOk ((cur.drop p).take m ++ .int .i64 v :: rest) 0 (m + 1) c (Fr ++ [v]) := by
  have hl := h.len
  obtain ⟨h1, h2, h3⟩ := h
  rw [h3]
  have e0 : (Fr.map (Value.int .i64)).length = m := by rw [List.length_map]; exact hl.symm
  refine ⟨?_, hm, ?_⟩
  · rw [List.length_append, e0, List.length_cons, hr]; omega
  · rw [List.drop_zero, List.map_append, List.take_append, e0]
    rw [List.take_of_length_le (by rw [e0]; omega)]
    congr 1
    rw [show m + 1 - m = 1 by omega]
    rfl

attribute [local irreducible] Fn FnN OpVC Ob RowFn ObS NewS
def dropS (S : List En) (f : Fl) : Bool × List En := match S.findIdx? (isFl f) with
  | none => (false, S)
  | some k => (true, S.eraseIdx k)

theorem tdrop_obs (lo hi : Int) (N : Nat) (S : List En) (now : Int) {f : Fl} (hf : FlOk f) (hn : now ≤ 1099511400000) (hS : S.length ≤ 90) :
    ObS Tryz.prog 11 (trA lo hi N S now) [.agg (flD f)] fun d A' => d = boolD (dropS S f).1 ∧ A' = trA lo hi N (dropS S f).2 now := by
  refine obsOfC [] Tryz.func11 rfl (by kernel_rfl) (Nat.le_of_ble_eq_true rfl) ?_
  rintro _ nx ⟨L, n, B, g, p, m, c, cur, W, S1, S3, S4, S0, Fr, rfl, hnx, hT, hFr, hn0⟩
  refine ⟨[], [], ⟨enumD (.loc 0 0 :: [.agg (flD f)]) 0, trH lo hi L n B g p m c cur now W S1 S3 S4, 5, ([0], 1)⟩, ?_, ?_⟩
  · repeat' (first | exact trivial | exact .inl (DLe.refl _) | exact .inl (DLe.nil _ _) | (refine .inr ⟨rfl, _, ?_, rfl⟩; rfl) | exact rfl | exact Nat.zero_le _ | constructor)
  have hfind := tfind_fn lo hi L n B g p m c now W hT.rel.ok hf
  obtain ⟨l1, l2, l3, l4, l5, l6⟩ := hT.free_len
  unfold dropS
  conv => whnf
  refine CallVC.look hfind rfl ?_
  rintro _ rfl
  cases hq : fnd L f (homeN lo hi L.length f) L.length 0 with
  | mk a q =>
  obtain ⟨b, is⟩ := q
  cases is with
  | false =>
    rw [hT.find_not hq]
    dsimp only
    conv => whnf
    refine ⟨[], [], boolD false, trH lo hi L n B g p m c cur now W S1 S3 S4, [], 5, ?_, rfl, trF lo hi N S now, ⟨L, n, B, g, p, m, c, cur, W, S1, S3, S4, S0, Fr, rfl, Nat.le_refl _, hT, hFr, hn0⟩, rfl, rfl⟩
    repeat' (first | exact trivial | exact .inl (DLe.refl _) | exact .inl (DLe.nil _ _) | (refine .inr ⟨rfl, _, ?_, rfl⟩; rfl) | exact rfl | exact Nat.zero_le _ | constructor)
  | true =>
  obtain ⟨k, k1, k2, k3, k4, k5⟩ := hT.find_is hq
  have k6 : S0.findIdx? (isFl f) = some k := (hT.find f).symm.trans k1
  rw [k1]
  have hstop := wstop_obs now W (at_ L a).v (by omega)
  have hBl := hT.len
  have hdrop := drop_obs lo hi L n hT.rel.ok hf
  rw [hq] at hdrop
  have hemp := fun (L' : List Sl) (hL : SRel lo hi N L' (n - 1) (S0.eraseIdx k)) => hT.empty k2 hL en0 (.refl _)
  have hown := hT.own _ (List.mem_of_getElem? k2)
  change ∀ L', _ → TInv lo hi N L' (n - 1) (B.set (at_ L a).v.toNat en0) (Fr ++ [(at_ L a).v]) now (outOf (at_ L a).v W) (S0.eraseIdx k) (S.eraseIdx k) at hemp
  change (bAt B (at_ L a).v).f = (at_ L a).f at hown
  rw [k4] at hown
  have hsr := fun L' h1 h2 h3 => hT.rel.drop (L' := L') hq k6 h1 h2 h3
  have hBv := bAt_get (B := B) k5.1 (by rw [hBl]; exact k5.2)
  have hm := hFr.len
  dsimp only at hdrop ⊢
  rw [← hown] at hdrop
  generalize at_ L a = sl at *
  obtain ⟨sf, v, sb⟩ := sl
  dsimp only at *
  conv => whnf
  refine CallVC.obs hstop rfl rfl ?_
  rintro _ _ S4' ⟨rfl, rfl⟩
  conv => whnf
  refine goIn [(0, [1000])] Tryz.func34 rfl (by kernel_rfl) (Nat.le_of_ble_eq_true rfl) ?_
  conv => whnf
  refine ⟨{q : (Nat → Prop) × List Sl // SRel lo hi N q.2 (n - 1) (S0.eraseIdx k)}, fun q => ⟨[(1, intD v), (0, .loc 0 0)], trH lo hi q.1.2 (n - 1) B g p m c cur now (outOf v W) q.1.1 S3 S4', 6, (upto 6 0, 6)⟩, ?_, ?_⟩
  · conv => whnf
    refine ⟨?_, ?_, trivial⟩
    · conv => whnf
      refine ⟨?_, trivial⟩
      conv => whnf
      refine ⟨rfl, ⟨k5.1, by rw [hBl]; exact k5.2⟩, ?_⟩
      conv => whnf
      refine ⟨?_, trivial⟩
      conv => whnf
      refine ⟨rfl, by omega, fun x hx => ?_⟩
      rw [hBv] at hx
      injection hx with hx
      subst hx
      conv => whnf
      refine ⟨?_, trivial⟩
      conv => whnf
      refine CallVC.obs hdrop rfl rfl ?_
      rintro _ _ S1' ⟨rfl, L', rfl, h1, h2, h3⟩
      conv => whnf
      refine ⟨⟨(S1', L'), hsr L' h1 h2 h3⟩, [], [], ?_⟩
      repeat' (first | exact trivial | exact .inl (DLe.refl _) | exact .inl (DLe.nil _ _) | (refine .inr ⟨rfl, _, ?_, rfl⟩; rfl) | exact rfl | exact Nat.zero_le _ | constructor)
    · conv => whnf
      refine ⟨rfl, ⟨k5.1, by rw [hBl]; exact k5.2⟩, ?_⟩
      conv => whnf
      refine ⟨?_, ?_, trivial⟩
      · conv => whnf
        refine ⟨?_, trivial⟩
        conv => whnf
        refine ⟨rfl, by omega, fun x hx => ?_⟩
        rw [hBv] at hx
        injection hx with hx
        subst hx
        conv => whnf
        refine ⟨?_, trivial⟩
        conv => whnf
        refine CallVC.obs hdrop rfl rfl ?_
        rintro _ _ S1' ⟨rfl, L', rfl, h1, h2, h3⟩
        conv => whnf
        refine ⟨⟨(S1', L'), hsr L' h1 h2 h3⟩, [], [], ?_⟩
        repeat' (first | exact trivial | exact .inl (DLe.refl _) | exact .inl (DLe.nil _ _) | (refine .inr ⟨rfl, _, ?_, rfl⟩; rfl) | exact rfl | exact Nat.zero_le _ | constructor)
      · conv => whnf
        refine ⟨rfl, by omega, fun x hx => ?_⟩
        rw [hBv] at hx
        injection hx with hx
        subst hx
        conv => whnf
        refine ⟨?_, trivial⟩
        conv => whnf
        refine ⟨?_, trivial⟩
        conv => whnf
        refine CallVC.obs hdrop rfl rfl ?_
        rintro _ _ S1' ⟨rfl, L', rfl, h1, h2, h3⟩
        conv => whnf
        refine ⟨⟨(S1', L'), hsr L' h1 h2 h3⟩, [], [], ?_⟩
        repeat' (first | exact trivial | exact .inl (DLe.refl _) | exact .inl (DLe.nil _ _) | (refine .inr ⟨rfl, _, ?_, rfl⟩; rfl) | exact rfl | exact Nat.zero_le _ | constructor)
  rintro ⟨⟨S1', L'⟩, hL⟩
  dsimp only at hL
  conv => whnf
  refine ⟨rfl, ⟨k5.1, by rw [hBl]; exact k5.2⟩, ?_⟩
  conv => whnf
  refine ⟨rfl, by omega, fun x hx => ?_⟩
  conv => whnf
  refine ⟨rfl, en0, rfl, ?_⟩
  conv => whnf
  (refine ⟨Nat.le_of_ble_eq_true rfl, ?_⟩; conv => whnf)
  refine ov_append (el := 3) (ti := ⟨.int .i64, 1, 8, [.int .i64 0]⟩) (id := 3) (g := g) (p := p) (n := m) (c := c) (cur := cur) (v := .int .i64 v) ttH rfl rfl rfl rfl rfl (by decide) rfl rfl rfl rfl hFr.fit hFr.le (by omega) (fun hin => ?_) (fun hout g' c' S' rest hc' hr => ?_)
  · conv => whnf
    refine ⟨[], [], boolD true, trH lo hi L' (n - 1) (B.set v.toNat en0) g p (m + 1) c (cur.set (p + m) (.int .i64 v)) now (outOf v W) S1' S3 S4', [], 5, ?_, rfl, trF lo hi N _ now, ⟨_, _, _, g, p, _, _, _, _, S1', S3, S4', _, _, rfl, Nat.le_refl _, hemp L' hL, hFr.push_in hin v, hn0⟩, rfl, rfl⟩
    repeat' (first | exact trivial | exact .inl (DLe.refl _) | exact .inl (DLe.nil _ _) | (refine .inr ⟨rfl, _, ?_, rfl⟩; rfl) | exact rfl | exact Nat.zero_le _ | constructor)
  · subst hout
    conv => whnf
    refine ⟨[(3, 6)], [], boolD true, trH lo hi L' (n - 1) (B.set v.toNat en0) g' 0 (c + 1) c' ((cur.drop p).take c ++ .int .i64 v :: rest) now (outOf v W) S1' S' S4', [], 5, ?_, rfl, trF lo hi N _ now, ⟨_, _, _, g', 0, _, _, _, _, S1', S', S4', _, _, rfl, Nat.le_refl _, hemp L' hL, hFr.push_out hc' v hr, hn0⟩, rfl, rfl⟩
    repeat' (first | exact trivial | exact .inl (DLe.refl _) | exact .inl (DLe.nil _ _) | (refine .inr ⟨rfl, _, ?_, rfl⟩; rfl) | exact rfl | exact Nat.zero_le _ | constructor)
end Go.Proofs.YtcbpdjikdohegaaGreat.V
namespace Go.Proofs.YtcbpdjikdohegaaGreat.V
open Go.RowKit
attribute [local irreducible] Fn FnN OpVC Ob RowFn ObS NewS

theorem nan_fn (a : Int) : Fn Tryz.prog 56 [intD a] fun d => d = boolD false := by
  refine fnOf [] Tryz.func56 rfl (by kernel_rfl) (Nat.le_of_ble_eq_true rfl) ?_
  conv => whnf
  rw [decide_eq_true (rfl : a = a)]
  rfl
theorem cmpc_fn (a b : Int) : Fn Tryz.prog 39 [intD a, intD b] fun d => d = intD (cmpI a b) := by
  refine fnOf [] Tryz.func39 rfl (by kernel_rfl) (Nat.le_of_ble_eq_true rfl) ?_
  unfold cmpI
  conv => whnf
  refine CallVC.pure (nan_fn a) rfl ?_
  rintro _ rfl
  conv => whnf
  refine CallVC.pure (nan_fn b) rfl ?_
  rintro _ rfl
  conv => whnf
  cases h1 : decide (a < b) with
  | true => conv => whnf
  | false =>
    conv => whnf
    cases h2 : decide (b < a) with
    | true => conv => whnf
    | false => conv => whnf
def orC (a b : Int) : Int := match decide (a = 0) with
  | true => b
  | false => a
theorem or2_fn (a b : Int) : Fn Tryz.prog 38 [.lit 1 [[intD a], [intD b]]] fun d => d = intD (orC a b) := by
  refine fnOf [] Tryz.func38 rfl (by kernel_rfl) (Nat.le_of_ble_eq_true rfl) ?_
  unfold orC
  conv => whnf
  refine ⟨Nat, fun k => ⟨[(8, intD k), (7, intD 2), (6, .lit 1 [[intD a], [intD b]]), (3, intD 0)], [], 0, ([], 0)⟩, fun k => k = 0 ∨ (k = 1 ∧ a = 0) ∨ (k = 2 ∧ a = 0 ∧ b = 0), fun k => 2 - k, ⟨0, [], [], ?_, .inl rfl⟩, ?_⟩
  · repeat' (first | exact trivial | exact .inl (DLe.refl _) | exact .inl (DLe.nil _ _) | (refine .inr ⟨rfl, _, ?_, rfl⟩; rfl) | exact rfl | exact Nat.zero_le _ | constructor)
  · rintro k (rfl | ⟨rfl, ha⟩ | ⟨rfl, ha, hb⟩)
    · conv => whnf
      refine ⟨rfl, ?_⟩
      conv => whnf
      cases h : decide (a = 0) with
      | true =>
        have h := of_decide_eq_true h
        conv => whnf
        refine ⟨1, [], [], ?_, .inr (.inl ⟨rfl, h⟩), by decide⟩
        repeat' (first | exact trivial | exact .inl (DLe.refl _) | exact .inl (DLe.nil _ _) | (refine .inr ⟨rfl, _, ?_, rfl⟩; rfl) | exact rfl | exact Nat.zero_le _ | constructor)
      | false =>
        conv => whnf
    · rw [decide_eq_true ha]
      conv => whnf
      refine ⟨rfl, ?_⟩
      conv => whnf
      cases h : decide (b = 0) with
      | true =>
        have h := of_decide_eq_true h
        conv => whnf
        refine ⟨2, [], [], ?_, .inr (.inr ⟨rfl, ha, h⟩), by decide⟩
        repeat' (first | exact trivial | exact .inl (DLe.refl _) | exact .inl (DLe.nil _ _) | (refine .inr ⟨rfl, _, ?_, rfl⟩; rfl) | exact rfl | exact Nat.zero_le _ | constructor)
      | false =>
        conv => whnf
    · rw [decide_eq_true ha]
      subst hb
      conv => whnf

def kK (x : En) : Int := x.at_ * 20282409603651670423947251286016 + flK x.f
theorem flK_in {f : Fl} (h : FlOk f) : 0 ≤ flK f ∧ flK f < 20282409603651670423947251286016 := by
  have := h.src; have := h.dst; have := h.sp; have := h.dp; have := h.pr
  unfold flK
  omega
theorem kK_or {x y : En} (hx : FlOk x.f) (hy : FlOk y.f) : orC (cmpI x.at_ y.at_) (cmpI (flK x.f) (flK y.f)) = cmpI (kK x) (kK y) := by
  have h1 := flK_in hx
  have h2 := flK_in hy
  unfold orC kK
  generalize flK x.f = a at *
  generalize flK y.f = b at *
  rcases cmpI_cases x.at_ y.at_ with ⟨e1, e2⟩ | ⟨e1, e2⟩ | ⟨e1, e2⟩ <;> rw [e2]
  · rcases cmpI_cases (x.at_ * 20282409603651670423947251286016 + a) (y.at_ * 20282409603651670423947251286016 + b) with ⟨e3, e4⟩ | ⟨e3, e4⟩ | ⟨e3, e4⟩
    · rw [e4]; rfl
    · omega
    · omega
  · rcases cmpI_cases (x.at_ * 20282409603651670423947251286016 + a) (y.at_ * 20282409603651670423947251286016 + b) with ⟨e3, e4⟩ | ⟨e3, e4⟩ | ⟨e3, e4⟩
    · omega
    · rw [e4]; rfl
    · omega
  · show cmpI a b = _
    rw [e1]
    rcases cmpI_cases a b with ⟨e3, e4⟩ | ⟨e3, e4⟩ | ⟨e3, e4⟩ <;> rcases cmpI_cases (y.at_ * 20282409603651670423947251286016 + a) (y.at_ * 20282409603651670423947251286016 + b) with ⟨e5, e6⟩ | ⟨e5, e6⟩ | ⟨e5, e6⟩ <;> rw [e4, e6] <;> omega
theorem turnCmp_fn (x y : EnS) : Fn Tryz.prog 37 [.agg (enD x.val), .agg (enD y.val)] fun d => d = intD (cmpI (kK x.val) (kK y.val)) := by
  refine fnOf [(1, [0, 1, 2, 3, 5, 6, 7, 8, 4, 9, 10, 11, 12])] Tryz.func37 rfl (by kernel_rfl) (Nat.le_of_ble_eq_true rfl) ?_
  rw [← kK_or x.2 y.2]
  conv => whnf
  refine CallVC.pure (cmpc_fn x.val.at_ y.val.at_) rfl ?_
  rintro _ rfl
  conv => whnf
  refine CallVC.pure (flCmp_fn x.2 y.2) rfl ?_
  rintro _ rfl
  conv => whnf
  refine ⟨Nat.le_of_ble_eq_true rfl, ?_⟩
  conv => whnf
  refine CallVC.pure (or2_fn _ _) rfl ?_
  rintro _ rfl
  conv => whnf

/-! ### What is due -/
def dueS (S : List En) (now : Int) (c : Nat) : List En := (List.range c).flatMap fun (i : Nat) => S.filter fun x => decide (x.at_ = now + 1 + (i : Int))
theorem dueS_next (S : List En) (now : Int) (c : Nat) : dueS S now (c + 1) = dueS S now c ++ S.filter fun x => decide (x.at_ = now + 1 + (c : Int)) := by
  unfold dueS
  rw [List.range_succ, List.flatMap_append]
  simp
theorem dueS_mem {S : List En} {now : Int} {x : En} : ∀ {c : Nat}, x ∈ dueS S now c → x ∈ S ∧ now < x.at_ ∧ x.at_ ≤ now + c
  | 0, h => by simp [dueS] at h
  | c + 1, h => by
    rw [dueS_next] at h
    rcases List.mem_append.1 h with h | h
    · obtain ⟨h1, h2, h3⟩ := dueS_mem h
      exact ⟨h1, h2, by omega⟩
    · obtain ⟨h1, h2⟩ := List.mem_filter.1 h
      have := of_decide_eq_true h2
      exact ⟨h1, by omega, by omega⟩
theorem filter_or {α : Type} (p q : α → Bool) : ∀ l : List α, (∀ x, x ∈ l → ¬ (p x = true ∧ q x = true)) → (l.filter p ++ l.filter q).Perm (l.filter fun x => p x || q x)
  | [], _ => .refl _
  | x :: r, h => by
    have ih := filter_or p q r fun y hy => h y (.tail _ hy)
    have hx := h x (.head _)
    cases hp : p x <;> cases hq : q x
    · rw [List.filter_cons_of_neg (by simp [hp]), List.filter_cons_of_neg (by simp [hq]), List.filter_cons_of_neg (by simp [hp, hq])]; exact ih
    · rw [List.filter_cons_of_neg (by simp [hp]), List.filter_cons_of_pos (by simp [hq]), List.filter_cons_of_pos (by simp [hq])]
      exact List.perm_middle.trans (ih.cons x)
    · rw [List.filter_cons_of_pos (by simp [hp]), List.filter_cons_of_neg (by simp [hq]), List.filter_cons_of_pos (by simp [hp])]
      exact ih.cons x
    · exact absurd ⟨hp, hq⟩ hx
theorem dueS_perm {S : List En} {now : Int} (hS : ∀ x, x ∈ S → now < x.at_) : ∀ c : Nat, (dueS S now c).Perm (S.filter fun x => decide (x.at_ ≤ now + c))
  | 0 => by
    have : S.filter (fun x => decide (x.at_ ≤ now + ((0 : Nat) : Int))) = [] := List.filter_eq_nil_iff.2 fun x hx => by have := hS x hx; simp; omega
    rw [this]; exact .refl _
  | c + 1 => by
    rw [dueS_next]
    refine ((dueS_perm hS c).append_right _).trans ((filter_or _ _ S fun x _ h => ?_).trans (List.Perm.of_eq (List.filter_congr fun x _ => ?_)))
    · have h1 := of_decide_eq_true h.1
      have h2 := of_decide_eq_true h.2
      omega
    · rw [Bool.eq_iff_iff]
      simp only [Bool.or_eq_true, decide_eq_true_eq]
      omega
theorem dueS_sorted {S : List En} {now : Int} (hso : S.Pairwise fun x y => flK x.f < flK y.f) (hf : ∀ x, x ∈ S → FlOk x.f) : ∀ c : Nat, (dueS S now c).Pairwise fun x y => kK x < kK y
  | 0 => .nil
  | c + 1 => by
    rw [dueS_next]
    refine List.pairwise_append.2 ⟨dueS_sorted hso hf c, ?_, fun x hx y hy => ?_⟩
    · refine List.Pairwise.imp_of_mem (fun {a b} ha hb hab => ?_) (hso.sublist List.filter_sublist)
      have h1 := of_decide_eq_true (List.mem_filter.1 ha).2
      have h2 := of_decide_eq_true (List.mem_filter.1 hb).2
      unfold kK
      rw [h1, h2]
      omega
    · obtain ⟨h1, h2, h3⟩ := dueS_mem hx
      obtain ⟨h4, h5⟩ := List.mem_filter.1 hy
      have h5 := of_decide_eq_true h5
      have := flK_in (hf x h1)
      have := flK_in (hf y h4)
      unfold kK
      omega
theorem left_of {S R out : List En} {t : Int} (hp : (out ++ R).Perm S) (hs : R.Sublist S) (h1 : ∀ x, x ∈ out → x.at_ ≤ t) (h2 : ∀ x, x ∈ R → t < x.at_) : R = S.filter (fun x => decide (t < x.at_)) ∧ out.Perm (S.filter fun x => decide (x.at_ ≤ t)) := by
  have e1 : R.filter (fun x => decide (t < x.at_)) = R := List.filter_eq_self.2 fun x hx => decide_eq_true (h2 x hx)
  have e2 : out.filter (fun x => decide (t < x.at_)) = [] := List.filter_eq_nil_iff.2 fun x hx => by have := h1 x hx; simp; omega
  have e3 : out.filter (fun x => decide (x.at_ ≤ t)) = out := List.filter_eq_self.2 fun x hx => decide_eq_true (h1 x hx)
  have e4 : R.filter (fun x => decide (x.at_ ≤ t)) = [] := List.filter_eq_nil_iff.2 fun x hx => by have := h2 x hx; simp; omega
  have p1 := hp.filter fun x => decide (t < x.at_)
  rw [List.filter_append, e1, e2, List.nil_append] at p1
  have p2 := hp.filter fun x => decide (x.at_ ≤ t)
  rw [List.filter_append, e3, e4, List.append_nil] at p2
  refine ⟨?_, p2⟩
  have hsub := hs.filter fun x => decide (t < x.at_)
  rw [e1] at hsub
  exact hsub.eq_of_length p1.length_eq
end Go.Proofs.YtcbpdjikdohegaaGreat.V
