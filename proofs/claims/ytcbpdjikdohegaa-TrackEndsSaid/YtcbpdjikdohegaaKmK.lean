/-
  The law TrackEnds, by value. Condition: the flows' numbers are of their kinds. (Printed by gen_km.py.)
-/
import Derived.Test.YtcbpdjikdohegaaK17
namespace Go.Proofs.Ytcbpdjikdohegaa.V
open Go.RowKit
attribute [local irreducible] Fn FnN OpVC Ob RowFn ObS NewS

/-- A deed. -/
structure Tde where
  kind : Int
  e : En
  n : Int
structure TdOk (x : Tde) : Prop where
  f : FlOk x.e.f
def tdD (x : Tde) : List D := intD x.kind :: enD x.e ++ [intD x.n]
abbrev rowsT (L : List Tde) : D := .rows Tde 15 tdD L
theorem late_of {N : Nat} {now : Int} {S due : List En} (h : SOk N now S) (hd : (due.map kf).Perm (S.map kf)) {y : En} (hy : y ∈ due) : now < y.at_ := by
  obtain ⟨z, hz, hze⟩ := List.mem_map.1 (hd.mem_iff.1 (List.mem_map.2 ⟨y, hy, rfl⟩))
  have e : z.at_ = y.at_ := congrArg Prod.snd hze
  rw [← e]
  exact (h.lim z hz).1
theorem addS_w {N : Nat} {S : List En} {now w r : Int} {e : En} {S' : List En} (h : addS N S now e w = (r, S')) (hr : r = 0) : 1 ≤ w ∧ w ≤ 4095 := by
  unfold addS at h
  cases g1 : decide (1 ≤ w ∧ w ≤ 4095) with
  | true => exact of_decide_eq_true g1
  | false => rw [g1] at h; injection h with h _; omega
theorem keepS_w {S : List En} {now w : Int} {e : En} {S' : List En} (h : keepS S now e w = (true, S')) : 1 ≤ w ∧ w ≤ 4095 := by
  unfold keepS at h
  cases g2 : S.findIdx? (isFl e.f) with
  | none => rw [g2] at h; injection h with h _; cases h
  | some k =>
    rw [g2] at h
    cases g1 : decide (1 ≤ w ∧ w ≤ 4095) with
    | true => exact of_decide_eq_true g1
    | false => rw [g1] at h; injection h with h _; cases h
/-- Where the law stands. -/
structure EL where
  k : Nat
  due : List En
  S : List En
  now : Int
  F : Nat → Prop
structure ELI (l : List Tde) (N : Nat) (g : EL) : Prop where
  k1 : g.k ≤ l.length
  k2 : g.k ≤ 40
  s : SOk N g.now g.S
  d : (g.due.map kf).Perm (g.S.map kf)
  len : g.S.length ≤ g.k
  n0 : 0 ≤ g.now
  n1 : g.now ≤ 4095 * (g.k : Int)

set_option maxHeartbeats 40000000 in
theorem ends_fn (n0 lo hi : Int) (l : List Tde) (hl : ∀ x, x ∈ l → TdOk x) : Fn Try.prog 8 [intD n0, .agg [u64D lo, u64D hi], rowsT l] fun d => d = boolD true := by
  refine fnOf [(20, [0, 1, 2, 3, 4, 6, 7, 5, 8, 9, 10]), (23, [0, 1, 2, 3, 4, 6, 7, 5, 8, 9, 10])] Try.func8 rfl (by kernel_rfl) (Nat.le_of_ble_eq_true rfl) ?_
  have hnew := tnew lo hi n0 0
  rw [show newN 0 = 0 by decide] at hnew
  generalize slN n0 = N at hnew
  conv => whnf
  refine CallVC.news hnew rfl ?_
  rintro _ F0 rfl
  conv => whnf
  refine ⟨EL, fun g => ⟨[(9, intD g.k), (8, rowsN g.due), (7, .loc 0 0), (2, rowsT l)], [(0, .obj (.sep g.F (trA lo hi N g.S g.now)))], 1, ([], 0)⟩, ELI l N, fun g => l.length - g.k, ⟨⟨0, [], [], 0, F0⟩, [(0, 1)], [], ?_, ⟨Nat.zero_le _, Nat.zero_le _, ⟨.nil, (fun _ h => by cases h), (fun _ h => by cases h), Nat.zero_le _⟩, .refl _, Nat.le_refl _, Int.le_refl _, by show (0 : Int) ≤ 4095 * (0 : Int); decide⟩⟩, ?_⟩
  · repeat' (first | exact trivial | exact .inl (DLe.refl _) | exact .inl (DLe.nil _ _) | (refine .inr ⟨rfl, _, ?_, rfl⟩; rfl) | exact rfl | exact Nat.zero_le _ | constructor)
  rintro ⟨k, due, S, now, F⟩ ⟨hk1, hk2, hS, hD, hSl, hp0, hp1⟩
  dsimp only at hk1 hk2 hS hD hSl hp0 hp1
  have hdl : due.length ≤ 90 := by
    have := hD.length_eq
    rw [List.length_map, List.length_map] at this
    omega
  have hend := tturn_obs lo hi N S now 4095 (by omega) (by omega)
  rw [show turnN 4095 = 4095 by decide, show (S.filter fun x => decide (now + ((4095 : Nat) : Int) < x.at_)) = [] from List.filter_eq_nil_iff.2 fun x hx => by have := (hS.lim x hx).2; simp; omega] at hend
  conv => whnf
  cases g1 : decide ((k : Int) < l.length) with
  | false =>
    conv => whnf
    refine CallVC.obs hend rfl rfl ?_
    rintro _ _ F1 ⟨rfl, rfl⟩
    conv => whnf
    refine CallVC.look (tlen_sp lo hi N [] _) rfl ?_
    rintro _ rfl
    conv => whnf
    refine CallVC.look (tall_sp lo hi N [] _) rfl ?_
    rintro _ rfl
    conv => whnf
    refine CallVC.pure lives23_fn rfl ?_
    rintro _ rfl
    conv => whnf
  | true =>
  have hlt := of_decide_eq_true g1
  conv => whnf
  cases g2 : decide ((k : Int) < 40) with
  | false =>
    conv => whnf
    refine CallVC.obs hend rfl rfl ?_
    rintro _ _ F1 ⟨rfl, rfl⟩
    conv => whnf
    refine CallVC.look (tlen_sp lo hi N [] _) rfl ?_
    rintro _ rfl
    conv => whnf
    refine CallVC.look (tall_sp lo hi N [] _) rfl ?_
    rintro _ rfl
    conv => whnf
    refine CallVC.pure lives23_fn rfl ?_
    rintro _ rfl
    conv => whnf
  | true =>
  have hlt40 := of_decide_eq_true g2
  obtain ⟨x, hx⟩ : ∃ x, l[k]? = some x := ⟨l[k]'(by omega), List.getElem?_eq_getElem _⟩
  have hxo : FlOk x.e.f := (hl x (List.mem_of_getElem? hx)).f
  have hwk : IntKind.i64.wrap ((k : Int) + 1) = ((k + 1 : Nat) : Int) := wrap_next (show k < 100 by omega) (by omega)
  clear hend
  conv => whnf
  refine ⟨rfl, ⟨by omega, hlt⟩, each_one hx ?_⟩
  conv => whnf
  cases c0 : decide (x.kind = 0) with
  | true =>
    conv => whnf
    have hadd := tadd_obs lo hi N S now x.e x.n hxo (by omega) (by omega)
    obtain ⟨a1, a2, a3, a4⟩ := hS.add x.n hxo hp0
    generalize hr : addS N S now x.e x.n = r at *
    obtain ⟨r, S1⟩ := r
    dsimp only at a1 a2 a3 a4 hadd
    refine CallVC.obs hadd rfl rfl ?_
    rintro _ _ F1 ⟨rfl, rfl⟩
    conv => whnf
    cases hr0 : decide (r = 0) with
    | true =>
      obtain ⟨b1, b2⟩ := a3 (of_decide_eq_true hr0) due hD
      have hw : IntKind.i64.wrap (now + x.n) = now + x.n := IntWalk.i64_in _ (by have := addS_w hr (of_decide_eq_true hr0); omega)
      have hwith := with_fn due x.e.f (now + x.n) (by omega)
      generalize withS due x.e.f (now + x.n) = due1 at *
      have h1 : SOk N now S1 := a1
      have h2 : (due1.map kf).Perm (S1.map kf) := b1
      have h3 : S1.length ≤ k + 1 := by omega
      have h4 : 0 ≤ now ∧ now ≤ 4095 * ((k + 1 : Nat) : Int) := ⟨hp0, by omega⟩
      generalize hnn : now = now1 at *
      conv => whnf
      refine CallVC.look (tnow_sp lo hi N S1 now1) rfl ?_
      rintro _ rfl
      conv => whnf
      rw [hw]
      refine CallVC.pure hwith rfl ?_
      rintro _ rfl
      conv => whnf
      have hdl1 : due1.length ≤ 90 := by
        have := h2.length_eq
        rw [List.length_map, List.length_map] at this
        omega
      refine ⟨Nat, fun j => ⟨[(14, intD j), (9, intD k), (8, rowsN due1), (7, .loc 0 0), (2, rowsT l)], [(0, .obj (.sep F1 (trA lo hi N S1 now1)))], 1, ([], 0)⟩, fun j => j ≤ due1.length, fun j => due1.length - j, ⟨0, [], [], ?_, Nat.zero_le _⟩, ?_⟩
      · repeat' (first | exact trivial | exact .inl (DLe.refl _) | exact .inl (DLe.nil _ _) | (refine .inr ⟨rfl, _, ?_, rfl⟩; rfl) | exact rfl | exact Nat.zero_le _ | constructor)
      · intro j hj
        replace hj : j ≤ due1.length := hj
        conv => whnf
        refine Fork.intro (fun q1 => ?_) (fun q1 => ?_)
        · have hltj : (j : Int) < due1.length := of_decide_eq_true q1
          obtain ⟨y, hy⟩ : ∃ y, due1[j]? = some y := ⟨due1[j]'(by omega), List.getElem?_eq_getElem _⟩
          have hya : now1 < y.at_ := late_of h1 h2 (List.mem_of_getElem? hy)
          conv => whnf
          refine ⟨rfl, ⟨by omega, hltj⟩, each_one hy ?_⟩
          conv => whnf
          refine CallVC.look (tnow_sp lo hi N S1 now1) rfl ?_
          rintro _ rfl
          conv => whnf
          rw [decide_eq_false (show ¬ y.at_ ≤ now1 by omega)]
          conv => whnf
          rw [wrap_next (show j < 300 by omega) (by omega)]
          refine ⟨j + 1, [], [], ?_, by show j + 1 ≤ _; omega, by show due1.length - (j + 1) < due1.length - j; omega⟩
          repeat' (first | exact trivial | exact .inl (DLe.refl _) | exact .inl (DLe.nil _ _) | (refine .inr ⟨rfl, _, ?_, rfl⟩; rfl) | exact rfl | exact Nat.zero_le _ | constructor)
        · have hlen : due1.length = S1.length := by have := h2.length_eq; rwa [List.length_map, List.length_map] at this
          have hle := h1.le
          conv => whnf
          refine CallVC.look (tlen_sp lo hi N S1 now1) rfl ?_
          rintro _ rfl
          rw [hlen]
          conv => whnf
          rw [decide_eq_true (rfl : (S1.length : Int) = S1.length)]
          conv => whnf
          refine CallVC.look (tlen_sp lo hi N S1 now1) rfl ?_
          rintro _ rfl
          conv => whnf
          refine CallVC.look (tsize_sp lo hi N S1 now1) rfl ?_
          rintro _ rfl
          conv => whnf
          rw [decide_eq_false (show ¬ (N : Int) < S1.length by omega)]
          conv => whnf
          rw [hwk]
          refine ⟨⟨k + 1, due1, S1, now1, F1⟩, [], [], ?_, ⟨by show k + 1 ≤ _; omega, by show k + 1 ≤ 40; omega, h1, h2, h3, h4.1, h4.2⟩, by show l.length - (k + 1) < l.length - k; omega⟩
          repeat' (first | exact trivial | exact .inl (DLe.refl _) | exact .inl (DLe.nil _ _) | (refine .inr ⟨rfl, _, ?_, rfl⟩; rfl) | exact rfl | exact Nat.zero_le _ | constructor)
    | false =>
      obtain rfl := a4 (of_decide_eq_false hr0)
      have h1 : SOk N now S1 := a1
      have h2 := hD
      have h3 : S1.length ≤ k + 1 := by omega
      have h4 : 0 ≤ now ∧ now ≤ 4095 * ((k + 1 : Nat) : Int) := ⟨hp0, by omega⟩
      generalize hnn : now = now1 at *
      generalize hdd : due = due1 at *
      conv => whnf
      have hdl1 : due1.length ≤ 90 := by
        have := h2.length_eq
        rw [List.length_map, List.length_map] at this
        omega
      refine ⟨Nat, fun j => ⟨[(14, intD j), (9, intD k), (8, rowsN due1), (7, .loc 0 0), (2, rowsT l)], [(0, .obj (.sep F1 (trA lo hi N S1 now1)))], 1, ([], 0)⟩, fun j => j ≤ due1.length, fun j => due1.length - j, ⟨0, [], [], ?_, Nat.zero_le _⟩, ?_⟩
      · repeat' (first | exact trivial | exact .inl (DLe.refl _) | exact .inl (DLe.nil _ _) | (refine .inr ⟨rfl, _, ?_, rfl⟩; rfl) | exact rfl | exact Nat.zero_le _ | constructor)
      · intro j hj
        replace hj : j ≤ due1.length := hj
        conv => whnf
        refine Fork.intro (fun q1 => ?_) (fun q1 => ?_)
        · have hltj : (j : Int) < due1.length := of_decide_eq_true q1
          obtain ⟨y, hy⟩ : ∃ y, due1[j]? = some y := ⟨due1[j]'(by omega), List.getElem?_eq_getElem _⟩
          have hya : now1 < y.at_ := late_of h1 h2 (List.mem_of_getElem? hy)
          conv => whnf
          refine ⟨rfl, ⟨by omega, hltj⟩, each_one hy ?_⟩
          conv => whnf
          refine CallVC.look (tnow_sp lo hi N S1 now1) rfl ?_
          rintro _ rfl
          conv => whnf
          rw [decide_eq_false (show ¬ y.at_ ≤ now1 by omega)]
          conv => whnf
          rw [wrap_next (show j < 300 by omega) (by omega)]
          refine ⟨j + 1, [], [], ?_, by show j + 1 ≤ _; omega, by show due1.length - (j + 1) < due1.length - j; omega⟩
          repeat' (first | exact trivial | exact .inl (DLe.refl _) | exact .inl (DLe.nil _ _) | (refine .inr ⟨rfl, _, ?_, rfl⟩; rfl) | exact rfl | exact Nat.zero_le _ | constructor)
        · have hlen : due1.length = S1.length := by have := h2.length_eq; rwa [List.length_map, List.length_map] at this
          have hle := h1.le
          conv => whnf
          refine CallVC.look (tlen_sp lo hi N S1 now1) rfl ?_
          rintro _ rfl
          rw [hlen]
          conv => whnf
          rw [decide_eq_true (rfl : (S1.length : Int) = S1.length)]
          conv => whnf
          refine CallVC.look (tlen_sp lo hi N S1 now1) rfl ?_
          rintro _ rfl
          conv => whnf
          refine CallVC.look (tsize_sp lo hi N S1 now1) rfl ?_
          rintro _ rfl
          conv => whnf
          rw [decide_eq_false (show ¬ (N : Int) < S1.length by omega)]
          conv => whnf
          rw [hwk]
          refine ⟨⟨k + 1, due1, S1, now1, F1⟩, [], [], ?_, ⟨by show k + 1 ≤ _; omega, by show k + 1 ≤ 40; omega, h1, h2, h3, h4.1, h4.2⟩, by show l.length - (k + 1) < l.length - k; omega⟩
          repeat' (first | exact trivial | exact .inl (DLe.refl _) | exact .inl (DLe.nil _ _) | (refine .inr ⟨rfl, _, ?_, rfl⟩; rfl) | exact rfl | exact Nat.zero_le _ | constructor)
  | false =>
  conv => whnf
  cases c1 : decide (x.kind = 1) with
  | true =>
    conv => whnf
    have hkeep := tkeep_obs lo hi N S now x.e x.n hxo (by omega) (by omega)
    obtain ⟨a1, a2, a3, a4⟩ := hS.keep (e := x.e) x.n hp0
    generalize hr : keepS S now x.e x.n = r at *
    obtain ⟨r, S1⟩ := r
    dsimp only at a1 a2 a3 a4 hkeep
    refine CallVC.obs hkeep rfl rfl ?_
    rintro _ _ F1 ⟨rfl, rfl⟩
    cases r with
    | true =>
      have b1 := a3 rfl due hD
      have hw : IntKind.i64.wrap (now + x.n) = now + x.n := IntWalk.i64_in _ (by have := keepS_w hr; omega)
      have hwith := with_fn due x.e.f (now + x.n) (by omega)
      generalize withS due x.e.f (now + x.n) = due1 at *
      have h1 : SOk N now S1 := a1
      have h2 : (due1.map kf).Perm (S1.map kf) := b1
      have h3 : S1.length ≤ k + 1 := by omega
      have h4 : 0 ≤ now ∧ now ≤ 4095 * ((k + 1 : Nat) : Int) := ⟨hp0, by omega⟩
      generalize hnn : now = now1 at *
      conv => whnf
      refine CallVC.look (tnow_sp lo hi N S1 now1) rfl ?_
      rintro _ rfl
      conv => whnf
      rw [hw]
      refine CallVC.pure hwith rfl ?_
      rintro _ rfl
      conv => whnf
      have hdl1 : due1.length ≤ 90 := by
        have := h2.length_eq
        rw [List.length_map, List.length_map] at this
        omega
      refine ⟨Nat, fun j => ⟨[(14, intD j), (9, intD k), (8, rowsN due1), (7, .loc 0 0), (2, rowsT l)], [(0, .obj (.sep F1 (trA lo hi N S1 now1)))], 1, ([], 0)⟩, fun j => j ≤ due1.length, fun j => due1.length - j, ⟨0, [], [], ?_, Nat.zero_le _⟩, ?_⟩
      · repeat' (first | exact trivial | exact .inl (DLe.refl _) | exact .inl (DLe.nil _ _) | (refine .inr ⟨rfl, _, ?_, rfl⟩; rfl) | exact rfl | exact Nat.zero_le _ | constructor)
      · intro j hj
        replace hj : j ≤ due1.length := hj
        conv => whnf
        refine Fork.intro (fun q1 => ?_) (fun q1 => ?_)
        · have hltj : (j : Int) < due1.length := of_decide_eq_true q1
          obtain ⟨y, hy⟩ : ∃ y, due1[j]? = some y := ⟨due1[j]'(by omega), List.getElem?_eq_getElem _⟩
          have hya : now1 < y.at_ := late_of h1 h2 (List.mem_of_getElem? hy)
          conv => whnf
          refine ⟨rfl, ⟨by omega, hltj⟩, each_one hy ?_⟩
          conv => whnf
          refine CallVC.look (tnow_sp lo hi N S1 now1) rfl ?_
          rintro _ rfl
          conv => whnf
          rw [decide_eq_false (show ¬ y.at_ ≤ now1 by omega)]
          conv => whnf
          rw [wrap_next (show j < 300 by omega) (by omega)]
          refine ⟨j + 1, [], [], ?_, by show j + 1 ≤ _; omega, by show due1.length - (j + 1) < due1.length - j; omega⟩
          repeat' (first | exact trivial | exact .inl (DLe.refl _) | exact .inl (DLe.nil _ _) | (refine .inr ⟨rfl, _, ?_, rfl⟩; rfl) | exact rfl | exact Nat.zero_le _ | constructor)
        · have hlen : due1.length = S1.length := by have := h2.length_eq; rwa [List.length_map, List.length_map] at this
          have hle := h1.le
          conv => whnf
          refine CallVC.look (tlen_sp lo hi N S1 now1) rfl ?_
          rintro _ rfl
          rw [hlen]
          conv => whnf
          rw [decide_eq_true (rfl : (S1.length : Int) = S1.length)]
          conv => whnf
          refine CallVC.look (tlen_sp lo hi N S1 now1) rfl ?_
          rintro _ rfl
          conv => whnf
          refine CallVC.look (tsize_sp lo hi N S1 now1) rfl ?_
          rintro _ rfl
          conv => whnf
          rw [decide_eq_false (show ¬ (N : Int) < S1.length by omega)]
          conv => whnf
          rw [hwk]
          refine ⟨⟨k + 1, due1, S1, now1, F1⟩, [], [], ?_, ⟨by show k + 1 ≤ _; omega, by show k + 1 ≤ 40; omega, h1, h2, h3, h4.1, h4.2⟩, by show l.length - (k + 1) < l.length - k; omega⟩
          repeat' (first | exact trivial | exact .inl (DLe.refl _) | exact .inl (DLe.nil _ _) | (refine .inr ⟨rfl, _, ?_, rfl⟩; rfl) | exact rfl | exact Nat.zero_le _ | constructor)
    | false =>
      obtain rfl := a4 rfl
      have h1 : SOk N now S1 := a1
      have h2 := hD
      have h3 : S1.length ≤ k + 1 := by omega
      have h4 : 0 ≤ now ∧ now ≤ 4095 * ((k + 1 : Nat) : Int) := ⟨hp0, by omega⟩
      generalize hnn : now = now1 at *
      generalize hdd : due = due1 at *
      conv => whnf
      have hdl1 : due1.length ≤ 90 := by
        have := h2.length_eq
        rw [List.length_map, List.length_map] at this
        omega
      refine ⟨Nat, fun j => ⟨[(14, intD j), (9, intD k), (8, rowsN due1), (7, .loc 0 0), (2, rowsT l)], [(0, .obj (.sep F1 (trA lo hi N S1 now1)))], 1, ([], 0)⟩, fun j => j ≤ due1.length, fun j => due1.length - j, ⟨0, [], [], ?_, Nat.zero_le _⟩, ?_⟩
      · repeat' (first | exact trivial | exact .inl (DLe.refl _) | exact .inl (DLe.nil _ _) | (refine .inr ⟨rfl, _, ?_, rfl⟩; rfl) | exact rfl | exact Nat.zero_le _ | constructor)
      · intro j hj
        replace hj : j ≤ due1.length := hj
        conv => whnf
        refine Fork.intro (fun q1 => ?_) (fun q1 => ?_)
        · have hltj : (j : Int) < due1.length := of_decide_eq_true q1
          obtain ⟨y, hy⟩ : ∃ y, due1[j]? = some y := ⟨due1[j]'(by omega), List.getElem?_eq_getElem _⟩
          have hya : now1 < y.at_ := late_of h1 h2 (List.mem_of_getElem? hy)
          conv => whnf
          refine ⟨rfl, ⟨by omega, hltj⟩, each_one hy ?_⟩
          conv => whnf
          refine CallVC.look (tnow_sp lo hi N S1 now1) rfl ?_
          rintro _ rfl
          conv => whnf
          rw [decide_eq_false (show ¬ y.at_ ≤ now1 by omega)]
          conv => whnf
          rw [wrap_next (show j < 300 by omega) (by omega)]
          refine ⟨j + 1, [], [], ?_, by show j + 1 ≤ _; omega, by show due1.length - (j + 1) < due1.length - j; omega⟩
          repeat' (first | exact trivial | exact .inl (DLe.refl _) | exact .inl (DLe.nil _ _) | (refine .inr ⟨rfl, _, ?_, rfl⟩; rfl) | exact rfl | exact Nat.zero_le _ | constructor)
        · have hlen : due1.length = S1.length := by have := h2.length_eq; rwa [List.length_map, List.length_map] at this
          have hle := h1.le
          conv => whnf
          refine CallVC.look (tlen_sp lo hi N S1 now1) rfl ?_
          rintro _ rfl
          rw [hlen]
          conv => whnf
          rw [decide_eq_true (rfl : (S1.length : Int) = S1.length)]
          conv => whnf
          refine CallVC.look (tlen_sp lo hi N S1 now1) rfl ?_
          rintro _ rfl
          conv => whnf
          refine CallVC.look (tsize_sp lo hi N S1 now1) rfl ?_
          rintro _ rfl
          conv => whnf
          rw [decide_eq_false (show ¬ (N : Int) < S1.length by omega)]
          conv => whnf
          rw [hwk]
          refine ⟨⟨k + 1, due1, S1, now1, F1⟩, [], [], ?_, ⟨by show k + 1 ≤ _; omega, by show k + 1 ≤ 40; omega, h1, h2, h3, h4.1, h4.2⟩, by show l.length - (k + 1) < l.length - k; omega⟩
          repeat' (first | exact trivial | exact .inl (DLe.refl _) | exact .inl (DLe.nil _ _) | (refine .inr ⟨rfl, _, ?_, rfl⟩; rfl) | exact rfl | exact Nat.zero_le _ | constructor)
  | false =>
  conv => whnf
  cases c2 : decide (x.kind = 2) with
  | true =>
    conv => whnf
    have hdrop := tdrop_obs lo hi N S now hxo (by omega) (by omega)
    obtain ⟨a1, a2, a3⟩ := hS.drop x.e.f
    generalize hr : dropS S x.e.f = r at *
    obtain ⟨r, S1⟩ := r
    dsimp only at a1 a2 a3 hdrop
    refine CallVC.obs hdrop rfl rfl ?_
    rintro _ _ F1 ⟨rfl, rfl⟩
    have h2 := a3 due hD
    have hwith := with_fn due x.e.f (-1) (by omega)
    generalize withS due x.e.f (-1) = due1 at *
    have h1 : SOk N now S1 := a1
    have h3 : S1.length ≤ k + 1 := by omega
    have h4 : 0 ≤ now ∧ now ≤ 4095 * ((k + 1 : Nat) : Int) := ⟨hp0, by omega⟩
    generalize hnn : now = now1 at *
    conv => whnf
    refine CallVC.pure hwith rfl ?_
    rintro _ rfl
    conv => whnf
    have hdl1 : due1.length ≤ 90 := by
      have := h2.length_eq
      rw [List.length_map, List.length_map] at this
      omega
    refine ⟨Nat, fun j => ⟨[(14, intD j), (9, intD k), (8, rowsN due1), (7, .loc 0 0), (2, rowsT l)], [(0, .obj (.sep F1 (trA lo hi N S1 now1)))], 1, ([], 0)⟩, fun j => j ≤ due1.length, fun j => due1.length - j, ⟨0, [], [], ?_, Nat.zero_le _⟩, ?_⟩
    · repeat' (first | exact trivial | exact .inl (DLe.refl _) | exact .inl (DLe.nil _ _) | (refine .inr ⟨rfl, _, ?_, rfl⟩; rfl) | exact rfl | exact Nat.zero_le _ | constructor)
    · intro j hj
      replace hj : j ≤ due1.length := hj
      conv => whnf
      refine Fork.intro (fun q1 => ?_) (fun q1 => ?_)
      · have hltj : (j : Int) < due1.length := of_decide_eq_true q1
        obtain ⟨y, hy⟩ : ∃ y, due1[j]? = some y := ⟨due1[j]'(by omega), List.getElem?_eq_getElem _⟩
        have hya : now1 < y.at_ := late_of h1 h2 (List.mem_of_getElem? hy)
        conv => whnf
        refine ⟨rfl, ⟨by omega, hltj⟩, each_one hy ?_⟩
        conv => whnf
        refine CallVC.look (tnow_sp lo hi N S1 now1) rfl ?_
        rintro _ rfl
        conv => whnf
        rw [decide_eq_false (show ¬ y.at_ ≤ now1 by omega)]
        conv => whnf
        rw [wrap_next (show j < 300 by omega) (by omega)]
        refine ⟨j + 1, [], [], ?_, by show j + 1 ≤ _; omega, by show due1.length - (j + 1) < due1.length - j; omega⟩
        repeat' (first | exact trivial | exact .inl (DLe.refl _) | exact .inl (DLe.nil _ _) | (refine .inr ⟨rfl, _, ?_, rfl⟩; rfl) | exact rfl | exact Nat.zero_le _ | constructor)
      · have hlen : due1.length = S1.length := by have := h2.length_eq; rwa [List.length_map, List.length_map] at this
        have hle := h1.le
        conv => whnf
        refine CallVC.look (tlen_sp lo hi N S1 now1) rfl ?_
        rintro _ rfl
        rw [hlen]
        conv => whnf
        rw [decide_eq_true (rfl : (S1.length : Int) = S1.length)]
        conv => whnf
        refine CallVC.look (tlen_sp lo hi N S1 now1) rfl ?_
        rintro _ rfl
        conv => whnf
        refine CallVC.look (tsize_sp lo hi N S1 now1) rfl ?_
        rintro _ rfl
        conv => whnf
        rw [decide_eq_false (show ¬ (N : Int) < S1.length by omega)]
        conv => whnf
        rw [hwk]
        refine ⟨⟨k + 1, due1, S1, now1, F1⟩, [], [], ?_, ⟨by show k + 1 ≤ _; omega, by show k + 1 ≤ 40; omega, h1, h2, h3, h4.1, h4.2⟩, by show l.length - (k + 1) < l.length - k; omega⟩
        repeat' (first | exact trivial | exact .inl (DLe.refl _) | exact .inl (DLe.nil _ _) | (refine .inr ⟨rfl, _, ?_, rfl⟩; rfl) | exact rfl | exact Nat.zero_le _ | constructor)
  | false =>
    conv => whnf
    have hturn := tturn_obs lo hi N S now x.n (by omega) (by omega)
    obtain ⟨a1, a2⟩ := hS.turn (turnN x.n)
    have htn := turnN_in x.n
    have hdl : ∀ y, y ∈ dueS S now (turnN x.n) → y.at_ ≤ now + (turnN x.n : Int) := fun y hy => (dueS_mem hy).2.2
    have hnd := (a2.map ff).nodup_iff.2 hS.nodup
    have hD1 : (due.map kf).Perm ((dueS S now (turnN x.n) ++ S.filter fun y => decide (now + (turnN x.n : Int) < y.at_)).map kf) := hD.trans (a2.map kf).symm
    have hol := a2.length_eq
    rw [List.length_append] at hol
    generalize hov : dueS S now (turnN x.n) = over at *
    generalize hS1 : (S.filter fun y => decide (now + (turnN x.n : Int) < y.at_)) = S1 at *
    have h4 : 0 ≤ now + (turnN x.n : Int) ∧ now + (turnN x.n : Int) ≤ 4095 * ((k + 1 : Nat) : Int) := by omega
    generalize hnn : now + (turnN x.n : Int) = now1 at *
    have h1 : SOk N now1 S1 := a1
    have h3 : S1.length ≤ k + 1 := by omega
    refine CallVC.obs hturn rfl rfl ?_
    rintro _ _ F1 ⟨rfl, rfl⟩
    conv => whnf
    refine ⟨Nat × List En, fun p => ⟨[(12, intD p.1), (11, rowsN over), (9, intD k), (8, rowsN p.2), (7, .loc 0 0), (2, rowsT l)], [(0, .obj (.sep F1 (trA lo hi N S1 now1)))], 1, ([], 0)⟩, fun p => p.1 ≤ over.length ∧ (p.2.map kf).Perm ((over.drop p.1 ++ S1).map kf), fun p => over.length - p.1, ⟨(0, due), [], [], ?_, Nat.zero_le _, by rw [List.drop_zero]; exact hD1⟩, ?_⟩
    · repeat' (first | exact trivial | exact .inl (DLe.refl _) | exact .inl (DLe.nil _ _) | (refine .inr ⟨rfl, _, ?_, rfl⟩; rfl) | exact rfl | exact Nat.zero_le _ | constructor)
    · rintro ⟨j, d1⟩ ⟨hj, hd1⟩
      dsimp only at hj hd1
      have hdl1 : d1.length ≤ 90 := by
        have := hd1.length_eq
        rw [List.length_map, List.length_map, List.length_append, List.length_drop] at this
        omega
      conv => whnf
      refine Fork.intro (fun q1 => ?_) (fun q1 => ?_)
      · have hltj : (j : Int) < over.length := of_decide_eq_true q1
        obtain ⟨y, hy⟩ : ∃ y, over[j]? = some y := ⟨over[j]'(by omega), List.getElem?_eq_getElem _⟩
        have hdrop : over.drop j = y :: over.drop (j + 1) := by
          obtain ⟨h1, h2⟩ := List.getElem?_eq_some_iff.1 hy
          rw [← h2]; exact List.drop_eq_getElem_cons h1
        have hnd1 : ((over.drop j ++ S1).map ff).Nodup := hnd.sublist (((List.drop_sublist j over).append_right S1).map ff)
        rw [hdrop, List.cons_append] at hd1 hnd1
        obtain ⟨q, z, z1, z2, z3⟩ := dr_place hd1 hnd1 (.head _)
        have hrem := dr_remove hd1 hnd1
        have hpl := place_fn d1 y.f (by omega)
        rw [z1] at hpl
        have hql : q < d1.length := (List.getElem?_eq_some_iff.1 z2).1
        have hyn := hdl y (List.mem_of_getElem? hy)
        have hwith := with_fn d1 y.f (-1) (by omega)
        generalize withS d1 y.f (-1) = d2 at *
        conv => whnf
        refine ⟨rfl, ⟨by omega, hltj⟩, each_one hy ?_⟩
        conv => whnf
        refine CallVC.pure hpl rfl ?_
        rintro _ rfl
        conv => whnf
        refine ⟨rfl, ⟨Int.natCast_nonneg _, Int.ofNat_lt.2 hql⟩, each_one z2 ?_⟩
        conv => whnf
        refine CallVC.look (tnow_sp lo hi N S1 now1) rfl ?_
        rintro _ rfl
        conv => whnf
        refine Fork.intro (fun q3 => ?_) (fun _ => ?_)
        · have q3 : now1 < z.at_ := of_decide_eq_true q3
          exact absurd q3 (by omega)
        conv => whnf
        refine ⟨rfl, ⟨Int.natCast_nonneg _, Int.ofNat_lt.2 hql⟩, each_one z2 ?_⟩
        conv => whnf
        refine ⟨rfl, ⟨by omega, hltj⟩, each_one hy ?_⟩
        conv => whnf
        refine Fork.intro (fun q3 => ?_) (fun _ => ?_)
        · have q3 : (!decide (z.at_ = y.at_)) = true := q3
          rw [decide_eq_true z3] at q3
          cases q3
        conv => whnf
        refine ⟨rfl, ⟨by omega, hltj⟩, each_one hy ?_⟩
        conv => whnf
        refine CallVC.pure hwith rfl ?_
        rintro _ rfl
        conv => whnf
        rw [wrap_next (show j < 300 by omega) (by omega)]
        refine ⟨(j + 1, d2), [], [], ?_, ⟨by show j + 1 ≤ _; omega, hrem⟩, by show over.length - (j + 1) < over.length - j; omega⟩
        repeat' (first | exact trivial | exact .inl (DLe.refl _) | exact .inl (DLe.nil _ _) | (refine .inr ⟨rfl, _, ?_, rfl⟩; rfl) | exact rfl | exact Nat.zero_le _ | constructor)
      · have hjo : over.drop j = [] := List.drop_eq_nil_of_le (by have : ¬ (j : Int) < over.length := of_decide_eq_false q1; omega)
        rw [hjo, List.nil_append] at hd1
        have h2 := hd1
        generalize hdd : d1 = due1 at *
        conv => whnf
        have hdl1 : due1.length ≤ 90 := by
          have := h2.length_eq
          rw [List.length_map, List.length_map] at this
          omega
        refine ⟨Nat, fun j => ⟨[(14, intD j), (9, intD k), (8, rowsN due1), (7, .loc 0 0), (2, rowsT l)], [(0, .obj (.sep F1 (trA lo hi N S1 now1)))], 1, ([], 0)⟩, fun j => j ≤ due1.length, fun j => due1.length - j, ⟨0, [], [], ?_, Nat.zero_le _⟩, ?_⟩
        · repeat' (first | exact trivial | exact .inl (DLe.refl _) | exact .inl (DLe.nil _ _) | (refine .inr ⟨rfl, _, ?_, rfl⟩; rfl) | exact rfl | exact Nat.zero_le _ | constructor)
        · intro j hj
          replace hj : j ≤ due1.length := hj
          conv => whnf
          refine Fork.intro (fun q1 => ?_) (fun q1 => ?_)
          · have hltj : (j : Int) < due1.length := of_decide_eq_true q1
            obtain ⟨y, hy⟩ : ∃ y, due1[j]? = some y := ⟨due1[j]'(by omega), List.getElem?_eq_getElem _⟩
            have hya : now1 < y.at_ := late_of h1 h2 (List.mem_of_getElem? hy)
            conv => whnf
            refine ⟨rfl, ⟨by omega, hltj⟩, each_one hy ?_⟩
            conv => whnf
            refine CallVC.look (tnow_sp lo hi N S1 now1) rfl ?_
            rintro _ rfl
            conv => whnf
            rw [decide_eq_false (show ¬ y.at_ ≤ now1 by omega)]
            conv => whnf
            rw [wrap_next (show j < 300 by omega) (by omega)]
            refine ⟨j + 1, [], [], ?_, by show j + 1 ≤ _; omega, by show due1.length - (j + 1) < due1.length - j; omega⟩
            repeat' (first | exact trivial | exact .inl (DLe.refl _) | exact .inl (DLe.nil _ _) | (refine .inr ⟨rfl, _, ?_, rfl⟩; rfl) | exact rfl | exact Nat.zero_le _ | constructor)
          · have hlen : due1.length = S1.length := by have := h2.length_eq; rwa [List.length_map, List.length_map] at this
            have hle := h1.le
            conv => whnf
            refine CallVC.look (tlen_sp lo hi N S1 now1) rfl ?_
            rintro _ rfl
            rw [hlen]
            conv => whnf
            rw [decide_eq_true (rfl : (S1.length : Int) = S1.length)]
            conv => whnf
            refine CallVC.look (tlen_sp lo hi N S1 now1) rfl ?_
            rintro _ rfl
            conv => whnf
            refine CallVC.look (tsize_sp lo hi N S1 now1) rfl ?_
            rintro _ rfl
            conv => whnf
            rw [decide_eq_false (show ¬ (N : Int) < S1.length by omega)]
            conv => whnf
            rw [hwk]
            refine ⟨⟨k + 1, due1, S1, now1, F1⟩, [], [], ?_, ⟨by show k + 1 ≤ _; omega, by show k + 1 ≤ 40; omega, h1, h2, h3, h4.1, h4.2⟩, by show l.length - (k + 1) < l.length - k; omega⟩
            repeat' (first | exact trivial | exact .inl (DLe.refl _) | exact .inl (DLe.nil _ _) | (refine .inr ⟨rfl, _, ?_, rfl⟩; rfl) | exact rfl | exact Nat.zero_le _ | constructor)
end Go.Proofs.Ytcbpdjikdohegaa.V
