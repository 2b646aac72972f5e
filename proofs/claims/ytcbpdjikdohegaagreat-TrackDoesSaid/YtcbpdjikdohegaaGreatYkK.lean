/-
  Slots: dropping, by value. Conditions: slots stand right.
-/
import Derived.Test.YtcbpdjikdohegaaGreatYjK
namespace Go.Proofs.YtcbpdjikdohegaaGreat.V
open Go.RowKit
attribute [local irreducible] Fn FnN OpVC Ob ObS NewS

theorem fl0_ok : FlOk fl0 := ⟨by decide, by decide, by decide, by decide, by decide⟩
theorem drop_obs (lo hi : Int) (L : List Sl) (n : Nat) (hs : SlOk lo hi L n) {f : Fl} (hf : FlOk f) :
    ObS Tryz.prog 52 (slA lo hi L n) [.agg (flD f)] fun d A' => match fnd L f (homeN lo hi L.length f) L.length 0 with
      | (_, _, false) => d = boolD false ∧ A' = slA lo hi L n
      | (p, _, true) => d = boolD true ∧ ∃ L', A' = slA lo hi L' (n - 1) ∧ SlOk lo hi L' (n - 1) ∧ L'.length = L.length ∧ (ents L).Perm (at_ L p :: ents L') := by
  refine obsOf [] Tryz.func52 rfl (by kernel_rfl) (Nat.le_of_ble_eq_true rfl) ?_
  rintro _ _ ⟨rfl, rfl⟩
  have hL : 0 < L.length ∧ L.length ≤ 256 := ⟨hs.ok.pos, hs.le⟩
  conv => whnf
  refine CallVC.look (find_fn lo hi L n hL hf) rfl ?_
  rintro _ rfl
  cases hq : fnd L f (homeN lo hi L.length f) L.length 0 with
  | mk p0 q =>
  obtain ⟨m, b⟩ := q
  cases b with
  | false =>
    dsimp only
    conv => whnf
    refine ⟨[], [], boolD false, slH lo hi L n, [], 2, ?_, rfl, slF lo hi L n, ⟨rfl, rfl⟩, rfl, rfl⟩
    repeat' (first | exact trivial | exact .inl (DLe.refl _) | exact .inl (DLe.nil _ _) | (refine .inr ⟨rfl, _, ?_, rfl⟩; rfl) | exact rfl | exact Nat.zero_le _ | constructor)
  | true =>
    obtain ⟨hp0, hf0, hff⟩ := find_is hL.1 hq
    dsimp only
    have hcnt : 1 ≤ n := by
      have h2 := (ents_drop hp0 hf0).length_eq
      rw [List.length_cons] at h2
      have h3 := hs.cnt
      omega
    have hn256 : n ≤ 256 := by rw [hs.cnt]; exact Nat.le_trans (List.length_filter_le _ _) hL.2
    have hn1 : IntKind.i64.wrap ((n : Int) - 1) = ((n - 1 : Nat) : Int) := by rw [IntWalk.i64_in _ (by omega)]; omega
    have hw1 : IntKind.i64.wrap ((p0 : Int) + 1) = ((p0 + 1 : Nat) : Int) := wrap_next (show p0 < 256 by omega) (by omega)
    conv => whnf
    rw [hw1]
    refine ⟨by omega, ?_⟩
    rw [show ((p0 + 1 : Nat) : Int).tmod L.length = ((p0 + 1) % L.length : Nat) from (Int.ofNat_tmod _ _).symm]
    conv => whnf
    have hd0 := hs.ok.dropI hp0 hf0
    generalize (p0 + 1) % L.length = p1 at hd0
    refine ⟨List Sl × Nat × Nat, fun g => ⟨[(9, intD g.2.2), (8, intD L.length), (5, intD g.2.1), (0, .loc 0 0)], slH lo hi g.1 n, 2, ([0], 1)⟩,
      fun g => DropI (homeN lo hi L.length) L p0 g.1 g.2.1 g.2.2 ∧ ∀ x, x ∈ g.1 → FlOk x.f, fun g => dropMu (homeN lo hi L.length) g.1 g.2.1 g.2.2, ⟨(L, p0, p1), [], [], ?_, hd0, hs.fl⟩, ?_⟩
    · repeat' (first | exact trivial | exact .inl (DLe.refl _) | exact .inl (DLe.nil _ _) | (refine .inr ⟨rfl, _, ?_, rfl⟩; rfl) | exact rfl | exact Nat.zero_le _ | constructor)
    · rintro ⟨L1, hole, p⟩ ⟨d, hfl1⟩
      dsimp only at d hfl1
      have hlen := d.len
      have hp := d.pl
      have hhole := d.hl
      have hL1 : 0 < L1.length ∧ L1.length ≤ 256 := by omega
      have hp' : p < L.length := by omega
      have hhole' : hole < L.length := by omega
      obtain ⟨x, hx⟩ : ∃ x, L1[p]? = some x := ⟨_, List.getElem?_eq_getElem hp⟩
      have hax : at_ L1 p = x := by unfold at_; rw [hx]; rfl
      have hxf : FlOk x.f := hfl1 x (List.mem_of_getElem? hx)
      conv => whnf
      refine ⟨rfl, ⟨Int.natCast_nonneg _, Int.ofNat_lt.2 hp⟩, ?_⟩
      conv => whnf
      refine ⟨rfl, hp, fun y hy => ?_⟩
      obtain rfl : y = x := by rw [Int.toNat_natCast, hx] at hy; injection hy with hy; exact hy.symm
      conv => whnf
      cases g1 : y.full with
      | false =>
        conv => whnf
        conv => whnf
        refine ⟨rfl, ⟨Int.natCast_nonneg _, Int.ofNat_lt.2 hhole⟩, ?_⟩
        conv => whnf
        refine ⟨rfl, hhole, fun y hy => ?_⟩
        conv => whnf
        refine ⟨rfl, sl0, rfl, ?_⟩
        conv => whnf
        rw [hn1]
        have hok2 := d.done_empty (by rw [Full, hax, g1]; decide)
        refine ⟨[], [], boolD true, slH lo hi (L1.set hole sl0) (n - 1), [], 2, ?_, rfl, slF lo hi (L1.set hole sl0) (n - 1), ⟨rfl, rfl⟩, rfl, L1.set hole sl0, rfl, ⟨?_, ?_, ?_, ?_⟩, ?_, ?_⟩
        · repeat' (first | exact trivial | exact .inl (DLe.refl _) | exact .inl (DLe.nil _ _) | (refine .inr ⟨rfl, _, ?_, rfl⟩; rfl) | exact rfl | exact Nat.zero_le _ | constructor)
        · rw [List.length_set, d.len]; exact hok2
        · intro y hy
          rcases List.mem_or_eq_of_mem_set hy with hy | rfl
          · exact hfl1 y hy
          · exact fl0_ok
        · rw [List.length_set, d.len]; exact hL.2
        · have h1 := d.perm.length_eq
          have h2 := (ents_drop hp0 hf0).length_eq
          rw [List.length_cons] at h2
          have h3 := hs.cnt
          omega
        · rw [List.length_set]; exact d.len
        · exact (ents_drop hp0 hf0).trans (d.perm.symm.cons _)
      | true =>
      have hpf : Full L1 p := by rw [Full, hax]; exact g1
      conv => whnf
      cases g2 : (!decide ((p : Int) = hole)) with
      | false =>
        have hph : p = hole := by
          have : decide ((p : Int) = hole) = true := by simpa using g2
          have := of_decide_eq_true this
          omega
        conv => whnf
        conv => whnf
        refine ⟨rfl, ⟨Int.natCast_nonneg _, Int.ofNat_lt.2 hhole⟩, ?_⟩
        conv => whnf
        refine ⟨rfl, hhole, fun y hy => ?_⟩
        conv => whnf
        refine ⟨rfl, sl0, rfl, ?_⟩
        conv => whnf
        rw [hn1]
        have hok2 := d.done_self hph
        refine ⟨[], [], boolD true, slH lo hi (L1.set hole sl0) (n - 1), [], 2, ?_, rfl, slF lo hi (L1.set hole sl0) (n - 1), ⟨rfl, rfl⟩, rfl, L1.set hole sl0, rfl, ⟨?_, ?_, ?_, ?_⟩, ?_, ?_⟩
        · repeat' (first | exact trivial | exact .inl (DLe.refl _) | exact .inl (DLe.nil _ _) | (refine .inr ⟨rfl, _, ?_, rfl⟩; rfl) | exact rfl | exact Nat.zero_le _ | constructor)
        · rw [List.length_set, d.len]; exact hok2
        · intro y hy
          rcases List.mem_or_eq_of_mem_set hy with hy | rfl
          · exact hfl1 y hy
          · exact fl0_ok
        · rw [List.length_set, d.len]; exact hL.2
        · have h1 := d.perm.length_eq
          have h2 := (ents_drop hp0 hf0).length_eq
          rw [List.length_cons] at h2
          have h3 := hs.cnt
          omega
        · rw [List.length_set]; exact d.len
        · exact (ents_drop hp0 hf0).trans (d.perm.symm.cons _)
      | true =>
      have hph : p ≠ hole := by
        have : decide ((p : Int) = hole) = false := by simpa using g2
        have := of_decide_eq_false this
        omega
      conv => whnf
      refine ⟨rfl, ⟨Int.natCast_nonneg _, Int.ofNat_lt.2 hp⟩, ?_⟩
      conv => whnf
      refine ⟨rfl, hp, fun z hz => ?_⟩
      obtain rfl : z = y := by rw [Int.toNat_natCast, hx] at hz; injection hz with hz; exact hz.symm
      conv => whnf
      refine CallVC.look (home_fn lo hi L1 n hL1 hxf) rfl ?_
      rintro _ rfl
      conv => whnf
      refine CallVC.look (far_fn lo hi L1 n hL1 (homeN lo hi L1.length z.f) p (homeN_lt lo hi hL1.1 _) hp) rfl ?_
      rintro _ rfl
      conv => whnf
      refine CallVC.look (far_fn lo hi L1 n hL1 hole p hhole hp) rfl ?_
      rintro _ rfl
      conv => whnf
      rw [hlen]
      have ehome : homeN lo hi L.length (at_ L1 p).f = homeN lo hi L.length z.f := by rw [hax]
      cases g3 : decide (((dist L.length hole p : Nat) : Int) ≤ (dist L.length (homeN lo hi L.length z.f) p : Nat)) with
      | true =>
        have hle : dist L.length hole p ≤ dist L.length (homeN lo hi L.length z.f) p := by have := of_decide_eq_true g3; omega
        obtain ⟨d2, hmu⟩ := d.move hpf hph (by rw [hlen, ehome]; exact hle)
        rw [hax] at d2 hmu
        have hfl2 : ∀ y, y ∈ L1.set hole z → FlOk y.f := fun y hy => by
          rcases List.mem_or_eq_of_mem_set hy with hy | rfl
          · exact hfl1 y hy
          · exact hxf
        have hlen2 := d2.len
        have hL2 : 0 < (L1.set hole z).length ∧ (L1.set hole z).length ≤ 256 := by omega
        have hp2 : p < (L1.set hole z).length := by omega
        conv => whnf
        refine ⟨rfl, ⟨Int.natCast_nonneg _, Int.ofNat_lt.2 hp⟩, ?_⟩
        conv => whnf
        refine ⟨rfl, hp, fun y hy => ?_⟩
        obtain rfl : y = z := by rw [Int.toNat_natCast, hx] at hy; injection hy with hy; exact hy.symm
        conv => whnf
        refine ⟨rfl, ⟨Int.natCast_nonneg _, Int.ofNat_lt.2 hhole⟩, ?_⟩
        conv => whnf
        refine ⟨rfl, hhole, fun u hu => ?_⟩
        conv => whnf
        refine ⟨rfl, y, rfl, ?_⟩
        rw [Int.toNat_natCast]
        conv => whnf
        refine CallVC.look (far_fn lo hi (L1.set hole y) n hL2 p p hp2 hp2) rfl ?_
        rintro _ rfl
        rw [(dist_zero hp2 hp2).2 rfl]
        conv => whnf
        have hw2 : IntKind.i64.wrap ((L.length : Int) - 1) = ((L.length - 1 : Nat) : Int) := by rw [IntWalk.i64_in _ (by omega)]; omega
        rw [hw2, show decide (((0 : Nat) : Int) = ((L.length - 1 : Nat) : Int)) = false from decide_eq_false (by omega)]
        conv => whnf
        rw [show IntKind.i64.wrap ((p : Int) + 1) = ((p + 1 : Nat) : Int) from wrap_next (show p < 256 by omega) (by omega)]
        refine ⟨by omega, ?_⟩
        rw [show ((p + 1 : Nat) : Int).tmod L.length = ((p + 1) % L.length : Nat) from (Int.ofNat_tmod _ _).symm]
        rw [hlen] at d2 hmu
        generalize (p + 1) % L.length = p2 at d2 hmu
        conv => whnf
        refine ⟨(L1.set hole y, p, p2), [], [], ?_, ⟨d2, hfl2⟩, hmu⟩
        repeat' (first | exact trivial | exact .inl (DLe.refl _) | exact .inl (DLe.nil _ _) | (refine .inr ⟨rfl, _, ?_, rfl⟩; rfl) | exact rfl | exact Nat.zero_le _ | constructor)
      | false =>
        have hlt : dist L.length (homeN lo hi L.length z.f) p < dist L.length hole p := by have := of_decide_eq_false g3; omega
        conv => whnf
        refine CallVC.look (far_fn lo hi L1 n hL1 hole p hhole hp) rfl ?_
        rintro _ rfl
        rw [hlen]
        conv => whnf
        have hw2 : IntKind.i64.wrap ((L.length : Int) - 1) = ((L.length - 1 : Nat) : Int) := by rw [IntWalk.i64_in _ (by omega)]; omega
        rw [hw2]
        cases g4 : decide (((dist L.length hole p : Nat) : Int) = ((L.length - 1 : Nat) : Int)) with
        | true =>
          have hend : dist L.length hole p = L.length - 1 := by have := of_decide_eq_true g4; omega
          conv => whnf
          conv => whnf
          refine ⟨rfl, ⟨Int.natCast_nonneg _, Int.ofNat_lt.2 hhole⟩, ?_⟩
          conv => whnf
          refine ⟨rfl, hhole, fun y hy => ?_⟩
          conv => whnf
          refine ⟨rfl, sl0, rfl, ?_⟩
          conv => whnf
          rw [hn1]
          have hok2 := d.done_all (by rw [hlen, ehome]; exact hlt) (by rw [hlen]; exact hend)
          refine ⟨[], [], boolD true, slH lo hi (L1.set hole sl0) (n - 1), [], 2, ?_, rfl, slF lo hi (L1.set hole sl0) (n - 1), ⟨rfl, rfl⟩, rfl, L1.set hole sl0, rfl, ⟨?_, ?_, ?_, ?_⟩, ?_, ?_⟩
          · repeat' (first | exact trivial | exact .inl (DLe.refl _) | exact .inl (DLe.nil _ _) | (refine .inr ⟨rfl, _, ?_, rfl⟩; rfl) | exact rfl | exact Nat.zero_le _ | constructor)
          · rw [List.length_set, d.len]; exact hok2
          · intro y hy
            rcases List.mem_or_eq_of_mem_set hy with hy | rfl
            · exact hfl1 y hy
            · exact fl0_ok
          · rw [List.length_set, d.len]; exact hL.2
          · have h1 := d.perm.length_eq
            have h2 := (ents_drop hp0 hf0).length_eq
            rw [List.length_cons] at h2
            have h3 := hs.cnt
            omega
          · rw [List.length_set]; exact d.len
          · exact (ents_drop hp0 hf0).trans (d.perm.symm.cons _)
        | false =>
          have hend : dist L.length hole p ≠ L.length - 1 := by have := of_decide_eq_false g4; omega
          obtain ⟨d2, hmu⟩ := d.stay (by rw [hlen, ehome]; exact hlt) (by rw [hlen]; exact hend)
          conv => whnf
          rw [show IntKind.i64.wrap ((p : Int) + 1) = ((p + 1 : Nat) : Int) from wrap_next (show p < 256 by omega) (by omega)]
          refine ⟨by omega, ?_⟩
          rw [show ((p + 1 : Nat) : Int).tmod L.length = ((p + 1) % L.length : Nat) from (Int.ofNat_tmod _ _).symm]
          rw [hlen] at d2 hmu
          generalize (p + 1) % L.length = p2 at d2 hmu
          conv => whnf
          refine ⟨(L1, hole, p2), [], [], ?_, ⟨d2, hfl1⟩, hmu⟩
          repeat' (first | exact trivial | exact .inl (DLe.refl _) | exact .inl (DLe.nil _ _) | (refine .inr ⟨rfl, _, ?_, rfl⟩; rfl) | exact rfl | exact Nat.zero_le _ | constructor)
end Go.Proofs.YtcbpdjikdohegaaGreat.V
