/-
  The law SlotsLooks, by value. Conditions: numbers are ones of their kinds.
-/
import Derived.Test.YtcbpdjikdohegaaYs
import Derived.Test.YtcbpdjikdohegaaK1
namespace Go.Proofs.Ytcbpdjikdohegaa.V
open Go.RowKit
attribute [local irreducible] Fn FnN OpVC Ob

theorem each_one {α : Type} {l : List α} {k : Nat} {a : α} {Q : α → Prop} (hak : l[k]? = some a) (h : Q a) : ∀ x, l[((k : Nat) : Int).toNat]? = some x → Q x := by
  intro x hx
  have hx' : l[k]? = some x := hx
  rw [hak] at hx'
  injection hx' with hx'
  exact hx' ▸ h
set_option maxHeartbeats 40000000 in
theorem looks_law (n0 lo hi : Int) (l : List De) (hl : ∀ x, x ∈ l → DeOk x) (f : Fl) (hf : FlOk f) : Fn Try.prog 3 [intD n0, .agg [u64D lo, u64D hi], rowsE l, .agg (flD f)] fun d => d = boolD true := by
  refine fnOf [(10, [1000]), (11, [1000])] Try.func3 rfl (by kernel_rfl) (Nat.le_of_ble_eq_true rfl) ?_
  have hr0 := SRel.new lo hi n0
  generalize hNe : slN n0 = N at hr0
  generalize hLe : List.replicate N sl0 = L0 at hr0
  conv => whnf
  refine CallVC.news (new_new lo hi n0) rfl ?_
  rintro _ S0 rfl
  rw [hNe, hLe]
  conv => whnf
  refine goIn [] Try.func10 rfl (by kernel_rfl) (Nat.le_of_ble_eq_true rfl) ?_
  conv => whnf
  refine CallVC.pure (in_fn n0) rfl ?_
  rintro _ rfl
  rw [hNe]
  conv => whnf
  refine ⟨LS, fun g => ⟨[(11, intD g.k), (10, .loc 3 0), (9, .loc 2 0), (7, .loc 1 0), (5, .loc 0 0), (2, rowsE l)], [(3, .cells 43 (rX N g.S)), (2, .obj (.sep g.F (slA lo hi g.L g.n))), (1, .cells 29 (flD f)), (0, .cells 24 [u64D lo, u64D hi])], 4, ([], 0)⟩,
    fun g => g.k ≤ l.length ∧ SRel lo hi N g.L g.n g.S, fun g => l.length - g.k, ⟨⟨0, L0, 0, [], S0⟩, [], [], ?_, Nat.zero_le _, hr0⟩, ?_⟩
  · repeat' (first | exact trivial | exact .inl (DLe.refl _) | exact .inl (DLe.nil _ _) | (refine .inr ⟨rfl, _, ?_, rfl⟩; rfl) | exact rfl | exact Nat.zero_le _ | constructor)
  · rintro ⟨k, L, n, S, F⟩ ⟨hk, hr⟩
    dsimp only at hk hr
    cases g1 : decide ((k : Int) < l.length) with
    | false =>
      conv => whnf
      rw [g1]
      conv => whnf
      have hpos := hr.ok.ok.pos
      have hle := hr.ok.le
      have hNl := hr.len
      have hok := hr.ok.ok
      obtain ⟨hsz, hn256⟩ := hr.size
      have hent : n ≤ L.length := by have := hr.ok.cnt; have h4 : (ents L).length ≤ L.length := List.length_filter_le _ _; omega
      rw [hNl] at hok hpos hle hent
      refine op_makeSlice (n := (N : Int)) (β := Bool) (enc := bD) (zz := false) ttH rfl rfl rfl rfl rfl (by decide) rfl ⟨by omega, by omega, by show _ * 1 ≤ _; omega⟩ rfl ?_
      conv => whnf
      refine ⟨Nat × List Bool, fun g => ⟨[(13, intD g.1), (12, .grow 4), (10, .loc 3 0), (9, .loc 2 0), (7, .loc 1 0), (5, .loc 0 0)], [(4, .grow Bool 4 1 bD g.2), (3, .cells 43 (rX N S)), (2, .obj (.sep F (slA lo hi L n))), (1, .cells 29 (flD f)), (0, .cells 24 [u64D lo, u64D hi])], 5, ([], 0)⟩, fun g => g.1 ≤ S.length ∧ LRow (homeN lo hi N) N ((S.map (·.f)).take g.1) g.2, fun g => S.length - g.1, ⟨(0, List.replicate N false), [], [], ?_, Nat.zero_le _, LRow.nil _ _⟩, ?_⟩
      · repeat' (first | exact trivial | exact .inl (DLe.refl _) | exact .inl (DLe.nil _ _) | (refine .inr ⟨rfl, _, ?_, rfl⟩; rfl) | exact rfl | exact Nat.zero_le _ | constructor)
      · rintro ⟨i, B⟩ ⟨hik, hB⟩
        dsimp only at hik hB
        have hBl := hB.len
        conv => whnf
        cases g3 : decide ((i : Int) < S.length) with
        | true =>
          have hlt : i < S.length := by have := of_decide_eq_true g3; omega
          obtain ⟨e, he⟩ : ∃ e, S[i]? = some e := ⟨_, List.getElem?_eq_getElem hlt⟩
          have hef := hr.flok e (List.mem_of_getElem? he)
          have hwi : IntKind.i64.wrap ((i : Int) + 1) = ((i + 1 : Nat) : Int) := wrap_next (show i < 300 by omega) (by omega)
          have hhN : homeN lo hi N e.f < N := homeN_lt lo hi (by omega) e.f
          obtain ⟨j0, hj0, hpre, hnew⟩ := hB.room (by rw [List.length_take, List.length_map]; omega) hhN
          conv => whnf
          refine ⟨rfl, ⟨Int.natCast_nonneg _, Int.ofNat_lt.2 hlt⟩, each_one he ?_⟩
          conv => whnf
          refine CallVC.pure (lhome_fn lo hi hef N ⟨by omega, by omega⟩) rfl ?_
          rintro _ rfl
          conv => whnf
          refine ⟨Nat × Nat, fun g => ⟨[(14, intD g.2), (13, intD i), (12, .grow 4), (10, .loc 3 0), (9, .loc 2 0), (7, .loc 1 0), (5, .loc 0 0)], [(4, .grow Bool 4 1 bD B), (3, .cells 43 (rX N S)), (2, .obj (.sep F (slA lo hi L n))), (1, .cells 29 (flD f)), (0, .cells 24 [u64D lo, u64D hi])], 5, ([], 0)⟩, fun g => g.1 ≤ j0 ∧ g.2 = (homeN lo hi N e.f + g.1) % N, fun g => j0 - g.1, ⟨(0, homeN lo hi N e.f), [], [], ?_, Nat.zero_le _, by rw [Nat.add_zero, Nat.mod_eq_of_lt hhN]⟩, ?_⟩
          · repeat' (first | exact trivial | exact .inl (DLe.refl _) | exact .inl (DLe.nil _ _) | (refine .inr ⟨rfl, _, ?_, rfl⟩; rfl) | exact rfl | exact Nat.zero_le _ | constructor)
          · rintro ⟨j, at_⟩ ⟨hj, hat⟩
            dsimp only at hj hat
            have hatl : at_ < N := by rw [hat]; exact Nat.mod_lt _ (by omega)
            conv => whnf
            refine ⟨rfl, ⟨Int.natCast_nonneg _, Int.ofNat_lt.2 (by rw [hBl]; exact hatl)⟩, ?_⟩
            conv => whnf
            refine ⟨rfl, by show at_ < B.length; rw [hBl]; exact hatl, fun b hb => ?_⟩
            replace hb : B[at_]? = some b := hb
            conv => whnf
            cases b with
            | true =>
              have hjl : j < j0 := by
                rcases Nat.lt_or_ge j j0 with h | h
                · exact h
                · obtain rfl : j = j0 := by omega
                  rw [hat, hnew] at hb; cases hb
              have hw1 : IntKind.i64.wrap ((at_ : Int) + 1) = ((at_ + 1 : Nat) : Int) := wrap_next (show at_ < 300 by omega) (by omega)
              have hw2 : ((at_ + 1 : Nat) : Int).tmod N = (((at_ + 1) % N : Nat) : Int) := by rw [Int.tmod_eq_emod_of_nonneg (by omega)]; rfl
              have hat2 : (at_ + 1) % N = (homeN lo hi N e.f + (j + 1)) % N := by rw [hat, Nat.mod_add_mod, Nat.add_assoc]
              conv => whnf
              rw [hw1]
              refine ⟨by omega, ?_⟩
              conv => whnf
              rw [hw2]
              refine ⟨(j + 1, (at_ + 1) % N), [], [], ?_, ⟨hjl, hat2⟩, by show j0 - (j + 1) < j0 - j; omega⟩
              repeat' (first | exact trivial | exact .inl (DLe.refl _) | exact .inl (DLe.nil _ _) | (refine .inr ⟨rfl, _, ?_, rfl⟩; rfl) | exact rfl | exact Nat.zero_le _ | constructor)
            | false =>
              obtain rfl : j = j0 := by
                rcases Nat.lt_or_ge j j0 with h | h
                · have := hpre j h
                  rw [← hat, hb] at this; cases this
                · omega
              conv => whnf
              refine ⟨rfl, ⟨Int.natCast_nonneg _, Int.ofNat_lt.2 (by rw [hBl]; exact hatl)⟩, ?_⟩
              conv => whnf
              refine ⟨rfl, by show at_ < B.length; rw [hBl]; exact hatl, fun x hx => ?_⟩
              conv => whnf
              refine ⟨rfl, true, rfl, ?_⟩
              conv => whnf
              rw [hwi]
              refine ⟨(i + 1, B.set at_ true), [], [], ?_, ⟨hlt, by
                have hadd := hB.add (f := e.f) hhN hj0 hpre hnew
                rw [← hat] at hadd
                have ht : (S.map (·.f)).take (i + 1) = (S.map (·.f)).take i ++ [e.f] := by rw [List.take_add_one, List.getElem?_map, he]; rfl
                show LRow _ _ ((S.map (·.f)).take (i + 1)) _
                rw [ht]; exact hadd⟩, by show S.length - (i + 1) < S.length - i; omega⟩
              repeat' (first | exact trivial | exact .inl (DLe.refl _) | exact .inl (DLe.nil _ _) | (refine .inr ⟨rfl, _, ?_, rfl⟩; rfl) | exact rfl | exact Nat.zero_le _ | constructor)
        | false =>
          have hB2 : LRow (homeN lo hi N) L.length (S.map (·.f)) B := by
            rw [hNl]
            have hge : ¬ (i : Int) < S.length := of_decide_eq_false g3
            have : (S.map (·.f)).take i = S.map (·.f) := List.take_of_length_le (by rw [List.length_map]; omega)
            rw [← this]; exact hB
          have hpf : (S.map (·.f)).Perm ((ents L).map (·.f)) := by
            have h := hr.perm.map (·.f)
            rwa [List.map_map] at h
          have hF : ∀ p, p < L.length → (B[p]? = some true ↔ Full L p) := fun p hp => hB2.same hok hpf hp
          have hBpos : 0 < B.length ∧ B.length ≤ 256 := by omega
          conv => whnf
          refine ⟨Nat, fun g => ⟨[(15, intD g), (12, .grow 4), (10, .loc 3 0), (9, .loc 2 0), (7, .loc 1 0), (5, .loc 0 0)], [(4, .grow Bool 4 1 bD B), (3, .cells 43 (rX N S)), (2, .obj (.sep F (slA lo hi L n))), (1, .cells 29 (flD f)), (0, .cells 24 [u64D lo, u64D hi])], 5, ([], 0)⟩, fun g => g ≤ S.length, fun g => S.length - g, ⟨0, [], [], ?_, Nat.zero_le _⟩, ?_⟩
          · repeat' (first | exact trivial | exact .inl (DLe.refl _) | exact .inl (DLe.nil _ _) | (refine .inr ⟨rfl, _, ?_, rfl⟩; rfl) | exact rfl | exact Nat.zero_le _ | constructor)
          · intro q hqk
            replace hqk : q ≤ S.length := hqk
            conv => whnf
            cases g4 : decide ((q : Int) < S.length) with
            | true =>
              have hlt : q < S.length := by have := of_decide_eq_true g4; omega
              obtain ⟨e, he⟩ : ∃ e, S[q]? = some e := ⟨_, List.getElem?_eq_getElem hlt⟩
              have hef := hr.flok e (List.mem_of_getElem? he)
              have hwq : IntKind.i64.wrap ((q : Int) + 1) = ((q + 1 : Nat) : Int) := wrap_next (show q < 300 by omega) (by omega)
              have hhN : homeN lo hi N e.f < N := homeN_lt lo hi (by omega) e.f
              obtain ⟨r, hr1, hr2, hr3⟩ := run_ex B hBpos.1 (homeN lo hi N e.f)
              have hlook := look_fn lo hi L n (by omega) hef
              rw [hNl] at hlook
              obtain ⟨p, hp, hpF, hpe⟩ : ∃ p, p < L.length ∧ Full L p ∧ (at_ L p).f = e.f := by
                obtain ⟨y, hy, hye⟩ := List.mem_map.1 (hr.perm.mem_iff.1 (List.mem_of_getElem? he))
                obtain ⟨p, h1, h2, h3⟩ := mem_ents.1 hy
                exact ⟨p, h1, h2, by rw [h3, ← hye]; rfl⟩
              have hx := looks_in (r := r) hok hF hp hpF (by have h3 := hr3; rw [hBl] at h3; rw [hpe, hNl]; exact h3)
              rw [hpe, hNl] at hx
              generalize (fnd L e.f (homeN lo hi N e.f) N 0).2.1 = x at hx hlook
              conv => whnf
              refine ⟨rfl, ⟨Int.natCast_nonneg _, Int.ofNat_lt.2 hlt⟩, each_one he ?_⟩
              conv => whnf
              refine CallVC.look (sl_look hlook (hasB (by kernel_rfl))) rfl ?_
              rintro _ rfl
              conv => whnf
              rw [show decide ((x : Int) < 1) = false from decide_eq_false (by omega)]
              conv => whnf
              refine ⟨rfl, ⟨Int.natCast_nonneg _, Int.ofNat_lt.2 hlt⟩, each_one he ?_⟩
              conv => whnf
              refine CallVC.pure (lhome_fn lo hi hef N ⟨by omega, by omega⟩) rfl ?_
              rintro _ rfl
              conv => whnf
              refine CallVC.snap (run_fn B hBpos (homeN lo hi N e.f) (by omega) r hr1 hr2 hr3) ?_
              rintro _ rfl
              refine ⟨rfl, ?_⟩
              conv => whnf
              rw [show decide ((x : Int) > r) = false from decide_eq_false (by omega)]
              conv => whnf
              rw [hwq]
              refine ⟨q + 1, [], [], ?_, hlt, by show S.length - (q + 1) < S.length - q; omega⟩
              repeat' (first | exact trivial | exact .inl (DLe.refl _) | exact .inl (DLe.nil _ _) | (refine .inr ⟨rfl, _, ?_, rfl⟩; rfl) | exact rfl | exact Nat.zero_le _ | constructor)
            | false =>
              have hfnd := rfind_fn N S (by omega) f
              have hhN : homeN lo hi N f < N := homeN_lt lo hi (by omega) f
              obtain ⟨r, hr1, hr2, hr3⟩ := run_ex B hBpos.1 (homeN lo hi N f)
              have hlook := look_fn lo hi L n (by omega) hf
              cases hq : fnd L f (homeN lo hi L.length f) L.length 0 with
              | mk p q2 =>
              obtain ⟨m, b⟩ := q2
              rw [hq] at hlook
              cases b with
              | true =>
                obtain ⟨j, hj1, hj2⟩ := hr.find_is hq
                have hfi : findI (isFl f) S = (j : Int) := by unfold findI; rw [hj1]
                rw [hfi] at hfnd
                conv => whnf
                refine CallVC.look hfnd rfl ?_
                rintro _ rfl
                conv => whnf
                rw [show decide ((j : Int) < 0) = false from decide_eq_false (by omega)]
                conv => whnf
                refine CallVC.pure lives_fn rfl ?_
                rintro _ rfl
                conv => whnf
              | false =>
                have hfi : findI (isFl f) S = -1 := by unfold findI; rw [hr.find_not hq]
                rw [hfi] at hfnd
                rw [hNl] at hq
                have hnot := looks_not (r := r) (f := f) hok hF (by rw [hNl]; exact hq) (by omega) (by have h3 := hr2; rw [hBl] at h3; rw [hNl]; exact h3) (by have h3 := hr3; rw [hBl] at h3; rw [hNl]; exact h3)
                have hw1 : IntKind.i64.wrap ((r : Int) + 1) = ((r + 1 : Nat) : Int) := wrap_next (show r < 300 by omega) (by omega)
                conv => whnf
                refine CallVC.look hfnd rfl ?_
                rintro _ rfl
                conv => whnf
                refine CallVC.pure (lhome_fn lo hi hf N ⟨by omega, by omega⟩) rfl ?_
                rintro _ rfl
                conv => whnf
                refine CallVC.snap (run_fn B hBpos (homeN lo hi N f) (by omega) r hr1 hr2 hr3) ?_
                rintro _ rfl
                refine ⟨rfl, ?_⟩
                conv => whnf
                rw [hw1]
                rcases Nat.lt_or_ge r N with hrN | hrN
                · obtain rfl : m = r + 1 := hnot.1 (by omega)
                  rw [show decide (((r + 1 : Nat) : Int) > N) = false from decide_eq_false (by omega)]
                  conv => whnf
                  refine CallVC.look (sl_look hlook (hasB (by kernel_rfl))) rfl ?_
                  rintro _ rfl
                  conv => whnf
                  rw [show (!decide (((r + 1 : Nat) : Int) = ((r + 1 : Nat) : Int))) = false by simp]
                  conv => whnf
                  refine CallVC.pure lives_fn rfl ?_
                  rintro _ rfl
                  conv => whnf
                · obtain rfl : r = N := by omega
                  obtain rfl : m = r := hnot.2 (by omega)
                  rw [show decide (((m + 1 : Nat) : Int) > m) = true from decide_eq_true (by omega)]
                  conv => whnf
                  refine CallVC.look (sl_look hlook (hasB (by kernel_rfl))) rfl ?_
                  rintro _ rfl
                  conv => whnf
                  rw [show (!decide ((m : Int) = (m : Int))) = false by simp]
                  conv => whnf
                  refine CallVC.pure lives_fn rfl ?_
                  rintro _ rfl
                  conv => whnf
    | true =>
    have hlt : k < l.length := by have := of_decide_eq_true g1; omega
    obtain ⟨x, hxl⟩ : ∃ x, l[k]? = some x := ⟨_, List.getElem?_eq_getElem hlt⟩
    have hdk := hl x (List.mem_of_getElem? hxl)
    cases g2 : decide ((k : Int) < 40) with
    | false =>
      conv => whnf
      rw [g1]
      conv => whnf
      rw [g2]
      conv => whnf
      have hpos := hr.ok.ok.pos
      have hle := hr.ok.le
      have hNl := hr.len
      have hok := hr.ok.ok
      obtain ⟨hsz, hn256⟩ := hr.size
      have hent : n ≤ L.length := by have := hr.ok.cnt; have h4 : (ents L).length ≤ L.length := List.length_filter_le _ _; omega
      rw [hNl] at hok hpos hle hent
      refine op_makeSlice (n := (N : Int)) (β := Bool) (enc := bD) (zz := false) ttH rfl rfl rfl rfl rfl (by decide) rfl ⟨by omega, by omega, by show _ * 1 ≤ _; omega⟩ rfl ?_
      conv => whnf
      refine ⟨Nat × List Bool, fun g => ⟨[(13, intD g.1), (12, .grow 4), (10, .loc 3 0), (9, .loc 2 0), (7, .loc 1 0), (5, .loc 0 0)], [(4, .grow Bool 4 1 bD g.2), (3, .cells 43 (rX N S)), (2, .obj (.sep F (slA lo hi L n))), (1, .cells 29 (flD f)), (0, .cells 24 [u64D lo, u64D hi])], 5, ([], 0)⟩, fun g => g.1 ≤ S.length ∧ LRow (homeN lo hi N) N ((S.map (·.f)).take g.1) g.2, fun g => S.length - g.1, ⟨(0, List.replicate N false), [], [], ?_, Nat.zero_le _, LRow.nil _ _⟩, ?_⟩
      · repeat' (first | exact trivial | exact .inl (DLe.refl _) | exact .inl (DLe.nil _ _) | (refine .inr ⟨rfl, _, ?_, rfl⟩; rfl) | exact rfl | exact Nat.zero_le _ | constructor)
      · rintro ⟨i, B⟩ ⟨hik, hB⟩
        dsimp only at hik hB
        have hBl := hB.len
        conv => whnf
        cases g3 : decide ((i : Int) < S.length) with
        | true =>
          have hlt : i < S.length := by have := of_decide_eq_true g3; omega
          obtain ⟨e, he⟩ : ∃ e, S[i]? = some e := ⟨_, List.getElem?_eq_getElem hlt⟩
          have hef := hr.flok e (List.mem_of_getElem? he)
          have hwi : IntKind.i64.wrap ((i : Int) + 1) = ((i + 1 : Nat) : Int) := wrap_next (show i < 300 by omega) (by omega)
          have hhN : homeN lo hi N e.f < N := homeN_lt lo hi (by omega) e.f
          obtain ⟨j0, hj0, hpre, hnew⟩ := hB.room (by rw [List.length_take, List.length_map]; omega) hhN
          conv => whnf
          refine ⟨rfl, ⟨Int.natCast_nonneg _, Int.ofNat_lt.2 hlt⟩, each_one he ?_⟩
          conv => whnf
          refine CallVC.pure (lhome_fn lo hi hef N ⟨by omega, by omega⟩) rfl ?_
          rintro _ rfl
          conv => whnf
          refine ⟨Nat × Nat, fun g => ⟨[(14, intD g.2), (13, intD i), (12, .grow 4), (10, .loc 3 0), (9, .loc 2 0), (7, .loc 1 0), (5, .loc 0 0)], [(4, .grow Bool 4 1 bD B), (3, .cells 43 (rX N S)), (2, .obj (.sep F (slA lo hi L n))), (1, .cells 29 (flD f)), (0, .cells 24 [u64D lo, u64D hi])], 5, ([], 0)⟩, fun g => g.1 ≤ j0 ∧ g.2 = (homeN lo hi N e.f + g.1) % N, fun g => j0 - g.1, ⟨(0, homeN lo hi N e.f), [], [], ?_, Nat.zero_le _, by rw [Nat.add_zero, Nat.mod_eq_of_lt hhN]⟩, ?_⟩
          · repeat' (first | exact trivial | exact .inl (DLe.refl _) | exact .inl (DLe.nil _ _) | (refine .inr ⟨rfl, _, ?_, rfl⟩; rfl) | exact rfl | exact Nat.zero_le _ | constructor)
          · rintro ⟨j, at_⟩ ⟨hj, hat⟩
            dsimp only at hj hat
            have hatl : at_ < N := by rw [hat]; exact Nat.mod_lt _ (by omega)
            conv => whnf
            refine ⟨rfl, ⟨Int.natCast_nonneg _, Int.ofNat_lt.2 (by rw [hBl]; exact hatl)⟩, ?_⟩
            conv => whnf
            refine ⟨rfl, by show at_ < B.length; rw [hBl]; exact hatl, fun b hb => ?_⟩
            replace hb : B[at_]? = some b := hb
            conv => whnf
            cases b with
            | true =>
              have hjl : j < j0 := by
                rcases Nat.lt_or_ge j j0 with h | h
                · exact h
                · obtain rfl : j = j0 := by omega
                  rw [hat, hnew] at hb; cases hb
              have hw1 : IntKind.i64.wrap ((at_ : Int) + 1) = ((at_ + 1 : Nat) : Int) := wrap_next (show at_ < 300 by omega) (by omega)
              have hw2 : ((at_ + 1 : Nat) : Int).tmod N = (((at_ + 1) % N : Nat) : Int) := by rw [Int.tmod_eq_emod_of_nonneg (by omega)]; rfl
              have hat2 : (at_ + 1) % N = (homeN lo hi N e.f + (j + 1)) % N := by rw [hat, Nat.mod_add_mod, Nat.add_assoc]
              conv => whnf
              rw [hw1]
              refine ⟨by omega, ?_⟩
              conv => whnf
              rw [hw2]
              refine ⟨(j + 1, (at_ + 1) % N), [], [], ?_, ⟨hjl, hat2⟩, by show j0 - (j + 1) < j0 - j; omega⟩
              repeat' (first | exact trivial | exact .inl (DLe.refl _) | exact .inl (DLe.nil _ _) | (refine .inr ⟨rfl, _, ?_, rfl⟩; rfl) | exact rfl | exact Nat.zero_le _ | constructor)
            | false =>
              obtain rfl : j = j0 := by
                rcases Nat.lt_or_ge j j0 with h | h
                · have := hpre j h
                  rw [← hat, hb] at this; cases this
                · omega
              conv => whnf
              refine ⟨rfl, ⟨Int.natCast_nonneg _, Int.ofNat_lt.2 (by rw [hBl]; exact hatl)⟩, ?_⟩
              conv => whnf
              refine ⟨rfl, by show at_ < B.length; rw [hBl]; exact hatl, fun x hx => ?_⟩
              conv => whnf
              refine ⟨rfl, true, rfl, ?_⟩
              conv => whnf
              rw [hwi]
              refine ⟨(i + 1, B.set at_ true), [], [], ?_, ⟨hlt, by
                have hadd := hB.add (f := e.f) hhN hj0 hpre hnew
                rw [← hat] at hadd
                have ht : (S.map (·.f)).take (i + 1) = (S.map (·.f)).take i ++ [e.f] := by rw [List.take_add_one, List.getElem?_map, he]; rfl
                show LRow _ _ ((S.map (·.f)).take (i + 1)) _
                rw [ht]; exact hadd⟩, by show S.length - (i + 1) < S.length - i; omega⟩
              repeat' (first | exact trivial | exact .inl (DLe.refl _) | exact .inl (DLe.nil _ _) | (refine .inr ⟨rfl, _, ?_, rfl⟩; rfl) | exact rfl | exact Nat.zero_le _ | constructor)
        | false =>
          have hB2 : LRow (homeN lo hi N) L.length (S.map (·.f)) B := by
            rw [hNl]
            have hge : ¬ (i : Int) < S.length := of_decide_eq_false g3
            have : (S.map (·.f)).take i = S.map (·.f) := List.take_of_length_le (by rw [List.length_map]; omega)
            rw [← this]; exact hB
          have hpf : (S.map (·.f)).Perm ((ents L).map (·.f)) := by
            have h := hr.perm.map (·.f)
            rwa [List.map_map] at h
          have hF : ∀ p, p < L.length → (B[p]? = some true ↔ Full L p) := fun p hp => hB2.same hok hpf hp
          have hBpos : 0 < B.length ∧ B.length ≤ 256 := by omega
          conv => whnf
          refine ⟨Nat, fun g => ⟨[(15, intD g), (12, .grow 4), (10, .loc 3 0), (9, .loc 2 0), (7, .loc 1 0), (5, .loc 0 0)], [(4, .grow Bool 4 1 bD B), (3, .cells 43 (rX N S)), (2, .obj (.sep F (slA lo hi L n))), (1, .cells 29 (flD f)), (0, .cells 24 [u64D lo, u64D hi])], 5, ([], 0)⟩, fun g => g ≤ S.length, fun g => S.length - g, ⟨0, [], [], ?_, Nat.zero_le _⟩, ?_⟩
          · repeat' (first | exact trivial | exact .inl (DLe.refl _) | exact .inl (DLe.nil _ _) | (refine .inr ⟨rfl, _, ?_, rfl⟩; rfl) | exact rfl | exact Nat.zero_le _ | constructor)
          · intro q hqk
            replace hqk : q ≤ S.length := hqk
            conv => whnf
            cases g4 : decide ((q : Int) < S.length) with
            | true =>
              have hlt : q < S.length := by have := of_decide_eq_true g4; omega
              obtain ⟨e, he⟩ : ∃ e, S[q]? = some e := ⟨_, List.getElem?_eq_getElem hlt⟩
              have hef := hr.flok e (List.mem_of_getElem? he)
              have hwq : IntKind.i64.wrap ((q : Int) + 1) = ((q + 1 : Nat) : Int) := wrap_next (show q < 300 by omega) (by omega)
              have hhN : homeN lo hi N e.f < N := homeN_lt lo hi (by omega) e.f
              obtain ⟨r, hr1, hr2, hr3⟩ := run_ex B hBpos.1 (homeN lo hi N e.f)
              have hlook := look_fn lo hi L n (by omega) hef
              rw [hNl] at hlook
              obtain ⟨p, hp, hpF, hpe⟩ : ∃ p, p < L.length ∧ Full L p ∧ (at_ L p).f = e.f := by
                obtain ⟨y, hy, hye⟩ := List.mem_map.1 (hr.perm.mem_iff.1 (List.mem_of_getElem? he))
                obtain ⟨p, h1, h2, h3⟩ := mem_ents.1 hy
                exact ⟨p, h1, h2, by rw [h3, ← hye]; rfl⟩
              have hx := looks_in (r := r) hok hF hp hpF (by have h3 := hr3; rw [hBl] at h3; rw [hpe, hNl]; exact h3)
              rw [hpe, hNl] at hx
              generalize (fnd L e.f (homeN lo hi N e.f) N 0).2.1 = x at hx hlook
              conv => whnf
              refine ⟨rfl, ⟨Int.natCast_nonneg _, Int.ofNat_lt.2 hlt⟩, each_one he ?_⟩
              conv => whnf
              refine CallVC.look (sl_look hlook (hasB (by kernel_rfl))) rfl ?_
              rintro _ rfl
              conv => whnf
              rw [show decide ((x : Int) < 1) = false from decide_eq_false (by omega)]
              conv => whnf
              refine ⟨rfl, ⟨Int.natCast_nonneg _, Int.ofNat_lt.2 hlt⟩, each_one he ?_⟩
              conv => whnf
              refine CallVC.pure (lhome_fn lo hi hef N ⟨by omega, by omega⟩) rfl ?_
              rintro _ rfl
              conv => whnf
              refine CallVC.snap (run_fn B hBpos (homeN lo hi N e.f) (by omega) r hr1 hr2 hr3) ?_
              rintro _ rfl
              refine ⟨rfl, ?_⟩
              conv => whnf
              rw [show decide ((x : Int) > r) = false from decide_eq_false (by omega)]
              conv => whnf
              rw [hwq]
              refine ⟨q + 1, [], [], ?_, hlt, by show S.length - (q + 1) < S.length - q; omega⟩
              repeat' (first | exact trivial | exact .inl (DLe.refl _) | exact .inl (DLe.nil _ _) | (refine .inr ⟨rfl, _, ?_, rfl⟩; rfl) | exact rfl | exact Nat.zero_le _ | constructor)
            | false =>
              have hfnd := rfind_fn N S (by omega) f
              have hhN : homeN lo hi N f < N := homeN_lt lo hi (by omega) f
              obtain ⟨r, hr1, hr2, hr3⟩ := run_ex B hBpos.1 (homeN lo hi N f)
              have hlook := look_fn lo hi L n (by omega) hf
              cases hq : fnd L f (homeN lo hi L.length f) L.length 0 with
              | mk p q2 =>
              obtain ⟨m, b⟩ := q2
              rw [hq] at hlook
              cases b with
              | true =>
                obtain ⟨j, hj1, hj2⟩ := hr.find_is hq
                have hfi : findI (isFl f) S = (j : Int) := by unfold findI; rw [hj1]
                rw [hfi] at hfnd
                conv => whnf
                refine CallVC.look hfnd rfl ?_
                rintro _ rfl
                conv => whnf
                rw [show decide ((j : Int) < 0) = false from decide_eq_false (by omega)]
                conv => whnf
                refine CallVC.pure lives_fn rfl ?_
                rintro _ rfl
                conv => whnf
              | false =>
                have hfi : findI (isFl f) S = -1 := by unfold findI; rw [hr.find_not hq]
                rw [hfi] at hfnd
                rw [hNl] at hq
                have hnot := looks_not (r := r) (f := f) hok hF (by rw [hNl]; exact hq) (by omega) (by have h3 := hr2; rw [hBl] at h3; rw [hNl]; exact h3) (by have h3 := hr3; rw [hBl] at h3; rw [hNl]; exact h3)
                have hw1 : IntKind.i64.wrap ((r : Int) + 1) = ((r + 1 : Nat) : Int) := wrap_next (show r < 300 by omega) (by omega)
                conv => whnf
                refine CallVC.look hfnd rfl ?_
                rintro _ rfl
                conv => whnf
                refine CallVC.pure (lhome_fn lo hi hf N ⟨by omega, by omega⟩) rfl ?_
                rintro _ rfl
                conv => whnf
                refine CallVC.snap (run_fn B hBpos (homeN lo hi N f) (by omega) r hr1 hr2 hr3) ?_
                rintro _ rfl
                refine ⟨rfl, ?_⟩
                conv => whnf
                rw [hw1]
                rcases Nat.lt_or_ge r N with hrN | hrN
                · obtain rfl : m = r + 1 := hnot.1 (by omega)
                  rw [show decide (((r + 1 : Nat) : Int) > N) = false from decide_eq_false (by omega)]
                  conv => whnf
                  refine CallVC.look (sl_look hlook (hasB (by kernel_rfl))) rfl ?_
                  rintro _ rfl
                  conv => whnf
                  rw [show (!decide (((r + 1 : Nat) : Int) = ((r + 1 : Nat) : Int))) = false by simp]
                  conv => whnf
                  refine CallVC.pure lives_fn rfl ?_
                  rintro _ rfl
                  conv => whnf
                · obtain rfl : r = N := by omega
                  obtain rfl : m = r := hnot.2 (by omega)
                  rw [show decide (((m + 1 : Nat) : Int) > m) = true from decide_eq_true (by omega)]
                  conv => whnf
                  refine CallVC.look (sl_look hlook (hasB (by kernel_rfl))) rfl ?_
                  rintro _ rfl
                  conv => whnf
                  rw [show (!decide ((m : Int) = (m : Int))) = false by simp]
                  conv => whnf
                  refine CallVC.pure lives_fn rfl ?_
                  rintro _ rfl
                  conv => whnf
    | true =>
    have hk40 := of_decide_eq_true g2
    have hwk : IntKind.i64.wrap ((k : Int) + 1) = ((k + 1 : Nat) : Int) := wrap_next (show k < 100 by omega) (by omega)
    conv => whnf
    rw [g1]
    conv => whnf
    rw [g2]
    conv => whnf
    refine ⟨rfl, ⟨Int.natCast_nonneg _, Int.ofNat_lt.2 hlt⟩, fun y hy => ?_⟩
    obtain rfl : y = x := by rw [Int.toNat_natCast, hxl] at hy; injection hy with hy; exact hy.symm
    conv => whnf
    cases g3 : decide (y.kind = 1) with
    | true =>
      obtain ⟨b, S', hp1, hp2⟩ := drop_rel hr hdk.f
      conv => whnf
      refine ⟨rfl, ⟨Int.natCast_nonneg _, Int.ofNat_lt.2 hlt⟩, each_one hxl ?_⟩
      conv => whnf
      refine CallVC.obs hp1 rfl rfl ?_
      rintro _ _ S1 ⟨rfl, L', n', rfl, hr'⟩
      conv => whnf
      refine ⟨rfl, ⟨Int.natCast_nonneg _, Int.ofNat_lt.2 hlt⟩, each_one hxl ?_⟩
      conv => whnf
      refine CallVC.ob hp2 rfl rfl rfl ?_
      rintro _ _ ⟨rfl, rfl⟩
      conv => whnf
      rw [hwk]
      refine ⟨⟨k + 1, L', n', S', S1⟩, [], [], ?_, ⟨hlt, hr'⟩, by show l.length - (k + 1) < l.length - k; omega⟩
      repeat' (first | exact trivial | exact .inl (DLe.refl _) | exact .inl (DLe.nil _ _) | (refine .inr ⟨rfl, _, ?_, rfl⟩; rfl) | exact rfl | exact Nat.zero_le _ | constructor)
    | false =>
      obtain ⟨r, L', n', hp1, hp2⟩ := put_rel hr hdk.f y.v
      conv => whnf
      refine ⟨Nat → Prop, fun b => ⟨[(11, intD k), (10, .loc 3 0), (9, .loc 2 0), (7, .loc 1 0), (5, .loc 0 0), (2, rowsE l)], [(3, .cells 43 (rX N S)), (2, .obj (.sep b (slA lo hi L' n'))), (1, .cells 29 (flD f)), (0, .cells 24 [u64D lo, u64D hi])], 4, ([], 0)⟩, ?_, fun S1 => ?_⟩
      · conv => whnf
        refine ⟨rfl, ⟨Int.natCast_nonneg _, Int.ofNat_lt.2 hlt⟩, each_one hxl ?_⟩
        conv => whnf
        refine ⟨rfl, ⟨Int.natCast_nonneg _, Int.ofNat_lt.2 hlt⟩, each_one hxl ?_⟩
        conv => whnf
        refine ⟨?_, ?_, trivial⟩
        · conv => whnf
          refine ⟨?_, trivial⟩
          · conv => whnf
            refine ⟨?_, trivial⟩
            · conv => whnf
              refine CallVC.obs hp1 rfl rfl ?_
              rintro _ _ S1 ⟨rfl, rfl⟩
              conv => whnf
              refine ⟨S1, [], [], ?_⟩
              repeat' (first | exact trivial | exact .inl (DLe.refl _) | exact .inl (DLe.nil _ _) | (refine .inr ⟨rfl, _, ?_, rfl⟩; rfl) | exact rfl | exact Nat.zero_le _ | constructor)
        · conv => whnf
          refine ⟨?_, trivial⟩
          · conv => whnf
            refine ⟨?_, trivial⟩
            · conv => whnf
              refine CallVC.obs hp1 rfl rfl ?_
              rintro _ _ S1 ⟨rfl, rfl⟩
              conv => whnf
              refine ⟨S1, [], [], ?_⟩
              repeat' (first | exact trivial | exact .inl (DLe.refl _) | exact .inl (DLe.nil _ _) | (refine .inr ⟨rfl, _, ?_, rfl⟩; rfl) | exact rfl | exact Nat.zero_le _ | constructor)
      conv => whnf
      refine ⟨{b : List En // SRel lo hi N L' n' b}, fun b => ⟨[(11, intD k), (10, .loc 3 0), (9, .loc 2 0), (7, .loc 1 0), (5, .loc 0 0), (2, rowsE l)], [(3, .cells 43 (rX N b.val)), (2, .obj (.sep S1 (slA lo hi L' n'))), (1, .cells 29 (flD f)), (0, .cells 24 [u64D lo, u64D hi])], 4, ([], 0)⟩, ?_, fun b => ?_⟩
      · conv => whnf
        refine ⟨rfl, ⟨Int.natCast_nonneg _, Int.ofNat_lt.2 hlt⟩, each_one hxl ?_⟩
        conv => whnf
        refine ⟨rfl, ⟨Int.natCast_nonneg _, Int.ofNat_lt.2 hlt⟩, each_one hxl ?_⟩
        conv => whnf
        refine ⟨?_, ?_, trivial⟩
        · conv => whnf
          refine ⟨?_, trivial⟩
          · conv => whnf
            refine ⟨?_, trivial⟩
            · conv => whnf
              refine CallVC.ob hp2 rfl rfl rfl ?_
              rintro _ _ ⟨rfl, S', rfl, hr'⟩
              conv => whnf
              refine ⟨⟨S', hr'⟩, [], [], ?_⟩
              repeat' (first | exact trivial | exact .inl (DLe.refl _) | exact .inl (DLe.nil _ _) | (refine .inr ⟨rfl, _, ?_, rfl⟩; rfl) | exact rfl | exact Nat.zero_le _ | constructor)
        · conv => whnf
          refine ⟨?_, trivial⟩
          · conv => whnf
            refine ⟨?_, trivial⟩
            · conv => whnf
              refine CallVC.ob hp2 rfl rfl rfl ?_
              rintro _ _ ⟨rfl, S', rfl, hr'⟩
              conv => whnf
              refine ⟨⟨S', hr'⟩, [], [], ?_⟩
              repeat' (first | exact trivial | exact .inl (DLe.refl _) | exact .inl (DLe.nil _ _) | (refine .inr ⟨rfl, _, ?_, rfl⟩; rfl) | exact rfl | exact Nat.zero_le _ | constructor)
      obtain ⟨S', hr'⟩ := b
      conv => whnf
      rw [hwk]
      refine ⟨⟨k + 1, L', n', S', S1⟩, [], [], ?_, ⟨hlt, hr'⟩, by show l.length - (k + 1) < l.length - k; omega⟩
      repeat' (first | exact trivial | exact .inl (DLe.refl _) | exact .inl (DLe.nil _ _) | (refine .inr ⟨rfl, _, ?_, rfl⟩; rfl) | exact rfl | exact Nat.zero_le _ | constructor)
end Go.Proofs.Ytcbpdjikdohegaa.V
