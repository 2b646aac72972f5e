/-
  A net's Heard by value (the program's). Conditions: the configuration's cells are numbers of their kinds; few bytes. (Printed by gen_ei.py.)
  A net's Tick, Waits, Len by value (the program's). Conditions: the configuration's cells are numbers of their kinds.
-/
import Derived.Test.YtfepckbhnghpeaaK16
namespace Go.Proofs.Ytfepckbhnghpeaa.V
open Go.RowKit
attribute [local irreducible] Fn FnN FnR OpVC DLe ArC ArL Ob ObS NewS

def macI (l : List Nat) : Nat → Int := fun i => ((l.getD i 0 : Nat) : Int)
def bitsZ (c : Nat → Int) (nic : Int) : Int := match decide (nic = 0) with
  | true => c 14
  | false => c 15
def learnS (c : Nat → Int) (z : Nat → Nat) (now : Int) (T : List Pl) (nic : Int) (a : Arp) : List (List Nat) × List Pl :=
  match decide ((a.srcIP : Int) = (addrZ z nic : Int)) with
  | true => ([], T)
  | false => match hostB a.srcIP (addrZ z nic) (bitsZ c nic) with
    | false => ([], T)
    | true => ((learnT c now T (nic, a.srcIP) (macI a.srcMac) (decide ((a.dstIP : Int) = (addrZ z nic : Int)))).1.1, (learnT c now T (nic, a.srcIP) (macI a.srcMac) (decide ((a.dstIP : Int) = (addrZ z nic : Int)))).2)
def answerS (z : Nat → Nat) (nic : Int) (a : Arp) : Sn2 := (nic, putE ⟨a.srcMac, macZ z nic, 2054, putA ⟨2, macZ z nic, addrZ z nic, a.srcMac, a.srcIP⟩⟩)
def ansL (z : Nat → Nat) (nic : Int) (a : Arp) : List Sn2 := match decide ((a.op : Int) = 1) with
  | false => []
  | true => match decide ((a.dstIP : Int) = (addrZ z nic : Int)) with
    | false => []
    | true => [answerS z nic a]
def heardT (c : Nat → Int) (z : Nat → Nat) (now : Int) (T : List Pl) (nic : Int) (a : Arp) : List Sn2 × List Pl :=
  match decide (nic = 0) || decide (nic = 1) with
  | false => ([], T)
  | true => ((learnS c z now T nic a).1.map (frameS z nic a.srcMac) ++ ansL z nic a, (learnS c z now T nic a).2)
theorem learn_told2 {c : Nat → Int} {now : Int} {T : List Pl} (h : ∀ x ∈ T, ∀ b ∈ x.ws, b.length ≤ 1000) (k : Int × Int) (m : Nat → Int) (add : Bool) : ∀ b ∈ (learnT c now T k m add).1.1, b.length ≤ 1000 := by
  unfold learnT
  cases hq : findT T k with
  | none =>
    dsimp only
    split
    · intro b hb; cases hb
    · intro b hb; cases hb
  | some x =>
    dsimp only
    exact h x (findT_mem hq).1
theorem dleRow {d : D} {L : List Sn2} (h : L = []) (hd : d = .v (.slice none 0 0)) : DLe d (sentsR L) := by
  subst h hd
  exact DLe.nil _ _
set_option maxRecDepth 10000 in
set_option maxHeartbeats 16000000 in
theorem heard_ar (z : Nat → Nat) (d : CDat) (T : List Pl) (nic : Int) (op sip dip x0 x1 x2 x3 x4 x5 y0 y1 y2 y3 y4 y5 : Nat) (hw : cfgW d.c) (hz : cfgZ d.c z) (hst : CStand d T) (hn : 0 ≤ d.now ∧ d.now ≤ 2000000000) (hwt : waitsT T ≤ 1000) (hfr : ∀ x ∈ T, ∀ b ∈ x.ws, b.length ≤ 1000)
    (h1 : op < 65536) (h2 : sip < 4294967296) (h3 : dip < 4294967296) :
    ArC Try.prog 9 [netP d.c d.cg, intD nic, .agg (arpD ⟨op, [x0, x1, x2, x3, x4, x5], sip, [y0, y1, y2, y3, y4, y5], dip⟩)] (cacheM d) fun r M => r = sentsR (heardT d.c z d.now T nic ⟨op, [x0, x1, x2, x3, x4, x5], sip, [y0, y1, y2, y3, y4, y5], dip⟩).1 ∧ ∃ d', M = cacheM d' ∧ d'.cg = d.cg ∧ d'.c = d.c ∧ d'.now = d.now ∧ CStand d' (heardT d.c z d.now T nic ⟨op, [x0, x1, x2, x3, x4, x5], sip, [y0, y1, y2, y3, y4, y5], dip⟩).2 := by
  rw [show arpD ⟨op, [x0, x1, x2, x3, x4, x5], sip, [y0, y1, y2, y3, y4, y5], dip⟩ = [u16D op, u8D x0, u8D x1, u8D x2, u8D x3, u8D x4, u8D x5, u32D sip, u8D y0, u8D y1, u8D y2, u8D y3, u8D y4, u8D y5, u32D dip] from rfl]
  refine arOf [(6, [0, 1, 2, 3, 4, 5, 6, 7, 8, 9, 10, 11, 12, 13, 5014, 15, 16, 17, 18, 19]), (13, [0, 1, 2, 3, 4, 5, 6, 7, 8, 9, 11, 12, 10, 13, 14, 15, 16, 17, 18])] Try.func9 rfl (by kernel_rfl) (Nat.le_of_ble_eq_true rfl) fun S => ?_
  cases hn0 : decide (nic = 0) with
  | false =>
    cases hn1 : decide (nic = 1) with
    | false =>
      unfold heardT
      rw [hn0, hn1]
      conv => whnf
      rw [hn0]
      conv => whnf
      rw [hn1]
      conv => whnf
      exact .le (dleRow rfl rfl) (.done S _ rfl rfl ⟨rfl, d, rfl, rfl, rfl, rfl, hst⟩)
    | true =>
      obtain rfl : nic = 1 := of_decide_eq_true hn1
      have e6 := hz 6 (by decide)
      have e7 := hz 7 (by decide)
      have e8 := hz 8 (by decide)
      have e9 := hz 9 (by decide)
      have e10 := hz 10 (by decide)
      have e11 := hz 11 (by decide)
      have e13 := hz 13 (by decide)
      obtain ⟨w12, w13, w16⟩ := cfgW_u32 hw
      have hho := hostF_fn (sip : Int) (d.c 13) (d.c 15) (by omega) w13
      rw [e13] at hho w13
      have hH0 : heardT d.c z d.now T 1 ⟨op, [x0, x1, x2, x3, x4, x5], sip, [y0, y1, y2, y3, y4, y5], dip⟩ = ((learnS d.c z d.now T 1 ⟨op, [x0, x1, x2, x3, x4, x5], sip, [y0, y1, y2, y3, y4, y5], dip⟩).1.map (frameS z 1 [x0, x1, x2, x3, x4, x5]) ++ ansL z 1 ⟨op, [x0, x1, x2, x3, x4, x5], sip, [y0, y1, y2, y3, y4, y5], dip⟩, (learnS d.c z d.now T 1 ⟨op, [x0, x1, x2, x3, x4, x5], sip, [y0, y1, y2, y3, y4, y5], dip⟩).2) := rfl
      conv => whnf
      refine ⟨(show (0 : Int) ≤ 1 ∧ (1 : Int) < ((2 : Nat) : Int) by decide), ?_⟩
      conv => whnf
      rw [e13]
      cases hs : decide ((sip : Int) = (z 13 : Int)) with
      | true =>
        have hL : learnS d.c z d.now T 1 ⟨op, [x0, x1, x2, x3, x4, x5], sip, [y0, y1, y2, y3, y4, y5], dip⟩ = ([], T) := by
          unfold learnS
          exact (show (match decide ((sip : Int) = (z 13 : Int)) with | true => (([], T) : List (List Nat) × List Pl) | false => _) = ([], T) by rw [hs])
        conv => whnf
        cases hop : decide ((op : Int) = 1) with
        | false =>
          have hans : ansL z 1 ⟨op, [x0, x1, x2, x3, x4, x5], sip, [y0, y1, y2, y3, y4, y5], dip⟩ = [] := by unfold ansL; rw [hop]
          conv => whnf
          refine .le (dleRow (L := (heardT d.c z d.now T 1 ⟨op, [x0, x1, x2, x3, x4, x5], sip, [y0, y1, y2, y3, y4, y5], dip⟩).1) ?_ rfl) (.done S _ rfl rfl ⟨rfl, d, rfl, rfl, rfl, rfl, by rw [hH0, hL]; exact hst⟩)
          rw [hH0, hL]
          dsimp only
          rw [hans]
          try rfl
        | true =>
          cases hdp : decide ((dip : Int) = (z 13 : Int)) with
          | false =>
            have hans : ansL z 1 ⟨op, [x0, x1, x2, x3, x4, x5], sip, [y0, y1, y2, y3, y4, y5], dip⟩ = [] := by unfold ansL; rw [hop]; exact (show (match decide ((dip : Int) = (z 13 : Int)) with | false => [] | true => _) = [] by rw [hdp])
            conv => whnf
            rw [hdp]
            conv => whnf
            refine .le (dleRow (L := (heardT d.c z d.now T 1 ⟨op, [x0, x1, x2, x3, x4, x5], sip, [y0, y1, y2, y3, y4, y5], dip⟩).1) ?_ rfl) (.done S _ rfl rfl ⟨rfl, d, rfl, rfl, rfl, rfl, by rw [hH0, hL]; exact hst⟩)
            rw [hH0, hL]
            dsimp only
            rw [hans]
            try rfl
          | true =>
            have hdd : dip = z 13 := by have := of_decide_eq_true hdp; omega
            have hans : ansL z 1 ⟨op, [x0, x1, x2, x3, x4, x5], sip, [y0, y1, y2, y3, y4, y5], dip⟩ = [answerS z 1 ⟨op, [x0, x1, x2, x3, x4, x5], sip, [y0, y1, y2, y3, y4, y5], dip⟩] := by unfold ansL; rw [hop]; exact (show (match decide ((dip : Int) = (z 13 : Int)) with | false => [] | true => _) = _ by rw [hdp])
            have ha := arpAnswer_fn op sip dip x0 x1 x2 x3 x4 x5 y0 y1 y2 y3 y4 y5 (z 6) (z 7) (z 8) (z 9) (z 10) (z 11)
            have hfm := arpFrame_fn 2 dip sip (z 6) (z 7) (z 8) (z 9) (z 10) (z 11) x0 x1 x2 x3 x4 x5 x0 x1 x2 x3 x4 x5
            have hpe := etherPut_fn x0 x1 x2 x3 x4 x5 (z 6) (z 7) (z 8) (z 9) (z 10) (z 11) 2054 (putA ⟨2, [z 6, z 7, z 8, z 9, z 10, z 11], dip, [x0, x1, x2, x3, x4, x5], sip⟩) (by simp [putA, firstA, b2, b4])
            rw [hdd] at ha hfm hpe
            conv => whnf
            rw [hdp]
            conv => whnf
            refine ⟨(show (0 : Int) ≤ 1 ∧ (1 : Int) < ((2 : Nat) : Int) by decide), ?_⟩
            conv => whnf
            rw [e6, e7, e8, e9, e10, e11]
            rw [show ((dip : Nat) : Int) = (z 13 : Int) from of_decide_eq_true hdp]
            (refine CallVC.pure (ha) rfl ?_; rintro _ rfl; conv => whnf)
            (refine CallVC.pure (hfm) rfl ?_; rintro _ rfl; conv => whnf)
            (refine CallVC.pure (hpe) rfl ?_; rintro _ rfl; conv => whnf)
            refine ⟨by decide, ?_⟩
            conv => whnf
            refine ⟨Sn2, sentC, ([] : List Sn2) ++ [answerS z 1 ⟨op, [x0, x1, x2, x3, x4, x5], sip, [y0, y1, y2, y3, y4, y5], dip⟩], by rw [List.map_append]; rfl, fun _ => rfl, by rw [List.length_append]; show 0 + 1 ≤ _; omega, by rw [List.length_append]; show (0 + 1) * 32 ≤ _; omega, rfl, ?_⟩
            conv => whnf
            refine .frz 2 Sn2 57 2 sentC (([] : List Sn2) ++ [answerS z 1 ⟨op, [x0, x1, x2, x3, x4, x5], sip, [y0, y1, y2, y3, y4, y5], dip⟩]) rfl (.done S _ rfl rfl ⟨?_, d, rfl, rfl, rfl, rfl, by rw [hH0, hL]; exact hst⟩)
            show sentsR _ = sentsR _
            rw [hH0, hL]
            dsimp only
            rw [hans]
            try rfl
      | false =>
        conv => whnf
        refine ⟨(show (0 : Int) ≤ 1 ∧ (1 : Int) < ((2 : Nat) : Int) by decide), ?_⟩
        conv => whnf
        cases hho2 : hostB (sip : Int) (z 13 : Int) (d.c 15) with
        | false =>
          rw [hho2] at hho
          have hL : learnS d.c z d.now T 1 ⟨op, [x0, x1, x2, x3, x4, x5], sip, [y0, y1, y2, y3, y4, y5], dip⟩ = ([], T) := by
            unfold learnS
            exact (show (match decide ((sip : Int) = (z 13 : Int)) with | true => (([], T) : List (List Nat) × List Pl) | false => match hostB (sip : Int) (z 13 : Int) (d.c 15) with | false => ([], T) | true => _) = ([], T) by rw [hs, hho2])
          (refine CallVC.pure (hho) rfl ?_; rintro _ rfl; conv => whnf)
          cases hop : decide ((op : Int) = 1) with
          | false =>
            have hans : ansL z 1 ⟨op, [x0, x1, x2, x3, x4, x5], sip, [y0, y1, y2, y3, y4, y5], dip⟩ = [] := by unfold ansL; rw [hop]
            conv => whnf
            refine .le (dleRow (L := (heardT d.c z d.now T 1 ⟨op, [x0, x1, x2, x3, x4, x5], sip, [y0, y1, y2, y3, y4, y5], dip⟩).1) ?_ rfl) (.done S _ rfl rfl ⟨rfl, d, rfl, rfl, rfl, rfl, by rw [hH0, hL]; exact hst⟩)
            rw [hH0, hL]
            dsimp only
            rw [hans]
            try rfl
          | true =>
            cases hdp : decide ((dip : Int) = (z 13 : Int)) with
            | false =>
              have hans : ansL z 1 ⟨op, [x0, x1, x2, x3, x4, x5], sip, [y0, y1, y2, y3, y4, y5], dip⟩ = [] := by unfold ansL; rw [hop]; exact (show (match decide ((dip : Int) = (z 13 : Int)) with | false => [] | true => _) = [] by rw [hdp])
              conv => whnf
              rw [hdp]
              conv => whnf
              refine .le (dleRow (L := (heardT d.c z d.now T 1 ⟨op, [x0, x1, x2, x3, x4, x5], sip, [y0, y1, y2, y3, y4, y5], dip⟩).1) ?_ rfl) (.done S _ rfl rfl ⟨rfl, d, rfl, rfl, rfl, rfl, by rw [hH0, hL]; exact hst⟩)
              rw [hH0, hL]
              dsimp only
              rw [hans]
              try rfl
            | true =>
              have hdd : dip = z 13 := by have := of_decide_eq_true hdp; omega
              have hans : ansL z 1 ⟨op, [x0, x1, x2, x3, x4, x5], sip, [y0, y1, y2, y3, y4, y5], dip⟩ = [answerS z 1 ⟨op, [x0, x1, x2, x3, x4, x5], sip, [y0, y1, y2, y3, y4, y5], dip⟩] := by unfold ansL; rw [hop]; exact (show (match decide ((dip : Int) = (z 13 : Int)) with | false => [] | true => _) = _ by rw [hdp])
              have ha := arpAnswer_fn op sip dip x0 x1 x2 x3 x4 x5 y0 y1 y2 y3 y4 y5 (z 6) (z 7) (z 8) (z 9) (z 10) (z 11)
              have hfm := arpFrame_fn 2 dip sip (z 6) (z 7) (z 8) (z 9) (z 10) (z 11) x0 x1 x2 x3 x4 x5 x0 x1 x2 x3 x4 x5
              have hpe := etherPut_fn x0 x1 x2 x3 x4 x5 (z 6) (z 7) (z 8) (z 9) (z 10) (z 11) 2054 (putA ⟨2, [z 6, z 7, z 8, z 9, z 10, z 11], dip, [x0, x1, x2, x3, x4, x5], sip⟩) (by simp [putA, firstA, b2, b4])
              rw [hdd] at ha hfm hpe
              conv => whnf
              rw [hdp]
              conv => whnf
              refine ⟨(show (0 : Int) ≤ 1 ∧ (1 : Int) < ((2 : Nat) : Int) by decide), ?_⟩
              conv => whnf
              rw [e6, e7, e8, e9, e10, e11]
              rw [show ((dip : Nat) : Int) = (z 13 : Int) from of_decide_eq_true hdp]
              (refine CallVC.pure (ha) rfl ?_; rintro _ rfl; conv => whnf)
              (refine CallVC.pure (hfm) rfl ?_; rintro _ rfl; conv => whnf)
              (refine CallVC.pure (hpe) rfl ?_; rintro _ rfl; conv => whnf)
              refine ⟨by decide, ?_⟩
              conv => whnf
              refine ⟨Sn2, sentC, ([] : List Sn2) ++ [answerS z 1 ⟨op, [x0, x1, x2, x3, x4, x5], sip, [y0, y1, y2, y3, y4, y5], dip⟩], by rw [List.map_append]; rfl, fun _ => rfl, by rw [List.length_append]; show 0 + 1 ≤ _; omega, by rw [List.length_append]; show (0 + 1) * 32 ≤ _; omega, rfl, ?_⟩
              conv => whnf
              refine .frz 2 Sn2 57 2 sentC (([] : List Sn2) ++ [answerS z 1 ⟨op, [x0, x1, x2, x3, x4, x5], sip, [y0, y1, y2, y3, y4, y5], dip⟩]) rfl (.done S _ rfl rfl ⟨?_, d, rfl, rfl, rfl, rfl, by rw [hH0, hL]; exact hst⟩)
              show sentsR _ = sentsR _
              rw [hH0, hL]
              dsimp only
              rw [hans]
              try rfl
        | true =>
          rw [hho2] at hho
          have hkw : keyW ((1 : Int), (sip : Int)) := ⟨⟨by show (0 : Int) ≤ sip; omega, by show (sip : Int) < 4294967296; omega⟩, by show (-9223372036854775808 : Int) ≤ 1; decide, by show (1 : Int) ≤ 9223372036854775807; decide⟩
          have hlearn := learn_ar d T hst (1, (sip : Int)) hkw (macI [x0, x1, x2, x3, x4, x5]) (decide ((dip : Int) = (z 13 : Int))) hn (by omega)
          have hL : learnS d.c z d.now T 1 ⟨op, [x0, x1, x2, x3, x4, x5], sip, [y0, y1, y2, y3, y4, y5], dip⟩ = ((learnT d.c d.now T (1, (sip : Int)) (macI [x0, x1, x2, x3, x4, x5]) (decide ((dip : Int) = (z 13 : Int)))).1.1, (learnT d.c d.now T (1, (sip : Int)) (macI [x0, x1, x2, x3, x4, x5]) (decide ((dip : Int) = (z 13 : Int)))).2) := by
            unfold learnS
            exact (show (match decide ((sip : Int) = (z 13 : Int)) with | true => (([], T) : List (List Nat) × List Pl) | false => match hostB (sip : Int) (z 13 : Int) (d.c 15) with | false => ([], T) | true => _) = _ by rw [hs, hho2]; rfl)
          have hwl := learn_waits_le (c := d.c) (now := d.now) hst.sort (1, (sip : Int)) (macI [x0, x1, x2, x3, x4, x5]) (decide ((dip : Int) = (z 13 : Int)))
          have htold := learn_told2 (c := d.c) (now := d.now) hfr (1, (sip : Int)) (macI [x0, x1, x2, x3, x4, x5]) (decide ((dip : Int) = (z 13 : Int)))
          (refine CallVC.pure (hho) rfl ?_; rintro _ rfl; conv => whnf)
          refine CallVC.ar (i := 0) hlearn rfl rfl ?_
          rintro _ _ S1 ⟨rfl, d', rfl, f1, f2, f3, f4⟩
          clear hlearn
          generalize learnT d.c d.now T (1, (sip : Int)) (macI [x0, x1, x2, x3, x4, x5]) (decide ((dip : Int) = (z 13 : Int))) = G at hL hwl htold f4 ⊢
          obtain ⟨⟨told, ok⟩, T'⟩ := G
          dsimp only at hL hwl htold f4 ⊢
          have hf := fun (l : List Nat) (hl : l.length ≤ 900000) => frame_fn d.c z hz 1 (.inr rfl) x0 x1 x2 x3 x4 x5 l hl
          conv => whnf
          refine ⟨Nat, fun k => ⟨[(68, intD k), (67, intD told.length), (66, wsR told), (8, u32D (z 13)), (7, .grow 2), (5, .loc 1 0), (1, intD 1), (0, netP d.c d.cg)], [(2, .grow Sn2 57 2 sentC ((told.take k).map (frameS z 1 [x0, x1, x2, x3, x4, x5]))), (1, .cells 43 [u16D op, u8D x0, u8D x1, u8D x2, u8D x3, u8D x4, u8D x5, u32D sip, u8D y0, u8D y1, u8D y2, u8D y3, u8D y4, u8D y5, u32D dip]), (0, arL S1 (cacheM d'))], 3, ([], 0)⟩,
            fun k => k ≤ told.length, fun k => told.length - k, ⟨0, [], [2], ?_, Nat.zero_le _⟩, ?_⟩
          · repeat' (first | exact trivial | exact .inl (DLe.refl _) | exact .inl (DLe.nil _ _) | (refine .inr ⟨rfl, _, ?_, rfl⟩; rfl) | exact rfl | exact .inl rfl | exact .inr ⟨rfl, rfl, rfl, rfl⟩ | exact Nat.zero_le _ | constructor)
          intro k hk
          replace hk : k ≤ told.length := hk
          have ek : IntKind.i64.wrap ((k : Int) + 1) = ((k + 1 : Nat) : Int) := by rw [IntWalk.i64_in _ (by omega)]; omega
          dsimp only
          conv => whnf
          refine Fork.intro (fun q => ?_) (fun q => ?_)
          · have q' : k < told.length := by have := of_decide_eq_true q; omega
            obtain ⟨bb, hb⟩ : ∃ bb, told[k]? = some bb := ⟨_, List.getElem?_eq_getElem q'⟩
            have hbl := htold bb (List.mem_of_getElem? hb)
            have htk : told.take (k + 1) = told.take k ++ [bb] := by rw [List.take_add_one, hb]; rfl
            conv => whnf
            refine ⟨rfl, ⟨by omega, by omega⟩, fun y hy => ?_⟩
            obtain rfl : bb = y := Option.some.inj (hb.symm.trans hy)
            conv => whnf
            refine CallVC.wk (fun C vs hr => reps_one (l := []) (dle_fpj _ _) hr) (CallVC.pure (hf bb (by omega)) rfl ?_)
            rintro _ rfl
            conv => whnf
            refine ⟨by decide, ?_⟩
            conv => whnf
            refine ⟨Sn2, sentC, (told.take (k + 1)).map (frameS z 1 [x0, x1, x2, x3, x4, x5]), by rw [htk, List.map_append, List.map_append]; rfl, fun _ => rfl, by rw [List.length_map, List.length_take]; omega, by rw [List.length_map, List.length_take]; show min (k + 1) told.length * 32 ≤ _; omega, rfl, ?_⟩
            conv => whnf
            rw [ek]
            refine ⟨k + 1, [(2, 3)], [], ?_, q', by show told.length - (k + 1) < told.length - k; omega⟩
            repeat' (first | exact trivial | exact .inl (DLe.refl _) | exact .inl (DLe.nil _ _) | (refine .inr ⟨rfl, _, ?_, rfl⟩; rfl) | exact rfl | exact .inl rfl | exact .inr ⟨rfl, rfl, rfl, rfl⟩ | exact Nat.zero_le _ | constructor)
          · have q' : k = told.length := by have := of_decide_eq_false q; omega
            subst q'
            rw [List.take_length]
            have hlm : (told.map (frameS z 1 [x0, x1, x2, x3, x4, x5])).length = told.length := List.length_map _
            conv => whnf
            cases hop : decide ((op : Int) = 1) with
            | false =>
              have hans : ansL z 1 ⟨op, [x0, x1, x2, x3, x4, x5], sip, [y0, y1, y2, y3, y4, y5], dip⟩ = [] := by unfold ansL; rw [hop]
              conv => whnf
              refine .frz 2 Sn2 57 2 sentC (told.map (frameS z 1 [x0, x1, x2, x3, x4, x5])) rfl (.done S1 _ rfl rfl ⟨?_, d', rfl, f1, f2, f3, by rw [hH0, hL]; exact f4⟩)
              show sentsR _ = sentsR _
              rw [hH0, hL]
              dsimp only
              rw [hans, List.append_nil]
              try rfl
            | true =>
              cases hdp : decide ((dip : Int) = (z 13 : Int)) with
              | false =>
                have hans : ansL z 1 ⟨op, [x0, x1, x2, x3, x4, x5], sip, [y0, y1, y2, y3, y4, y5], dip⟩ = [] := by unfold ansL; rw [hop]; exact (show (match decide ((dip : Int) = (z 13 : Int)) with | false => [] | true => _) = [] by rw [hdp])
                conv => whnf
                rw [hdp]
                conv => whnf
                refine .frz 2 Sn2 57 2 sentC (told.map (frameS z 1 [x0, x1, x2, x3, x4, x5])) rfl (.done S1 _ rfl rfl ⟨?_, d', rfl, f1, f2, f3, by rw [hH0, hL]; exact f4⟩)
                show sentsR _ = sentsR _
                rw [hH0, hL]
                dsimp only
                rw [hans, List.append_nil]
                try rfl
              | true =>
                have hdd : dip = z 13 := by have := of_decide_eq_true hdp; omega
                have hans : ansL z 1 ⟨op, [x0, x1, x2, x3, x4, x5], sip, [y0, y1, y2, y3, y4, y5], dip⟩ = [answerS z 1 ⟨op, [x0, x1, x2, x3, x4, x5], sip, [y0, y1, y2, y3, y4, y5], dip⟩] := by unfold ansL; rw [hop]; exact (show (match decide ((dip : Int) = (z 13 : Int)) with | false => [] | true => _) = _ by rw [hdp])
                have ha := arpAnswer_fn op sip dip x0 x1 x2 x3 x4 x5 y0 y1 y2 y3 y4 y5 (z 6) (z 7) (z 8) (z 9) (z 10) (z 11)
                have hfm := arpFrame_fn 2 dip sip (z 6) (z 7) (z 8) (z 9) (z 10) (z 11) x0 x1 x2 x3 x4 x5 x0 x1 x2 x3 x4 x5
                have hpe := etherPut_fn x0 x1 x2 x3 x4 x5 (z 6) (z 7) (z 8) (z 9) (z 10) (z 11) 2054 (putA ⟨2, [z 6, z 7, z 8, z 9, z 10, z 11], dip, [x0, x1, x2, x3, x4, x5], sip⟩) (by simp [putA, firstA, b2, b4])
                rw [hdd] at ha hfm hpe
                conv => whnf
                rw [hdp]
                conv => whnf
                refine ⟨(show (0 : Int) ≤ 1 ∧ (1 : Int) < ((2 : Nat) : Int) by decide), ?_⟩
                conv => whnf
                rw [e6, e7, e8, e9, e10, e11]
                rw [show ((dip : Nat) : Int) = (z 13 : Int) from of_decide_eq_true hdp]
                (refine CallVC.pure (ha) rfl ?_; rintro _ rfl; conv => whnf)
                (refine CallVC.pure (hfm) rfl ?_; rintro _ rfl; conv => whnf)
                (refine CallVC.pure (hpe) rfl ?_; rintro _ rfl; conv => whnf)
                refine ⟨by decide, ?_⟩
                conv => whnf
                refine ⟨Sn2, sentC, told.map (frameS z 1 [x0, x1, x2, x3, x4, x5]) ++ [answerS z 1 ⟨op, [x0, x1, x2, x3, x4, x5], sip, [y0, y1, y2, y3, y4, y5], dip⟩], by rw [List.map_append]; rfl, fun _ => rfl, by rw [List.length_append]; show (told.map (frameS z 1 [x0, x1, x2, x3, x4, x5])).length + 1 ≤ _; omega, by rw [List.length_append]; show ((told.map (frameS z 1 [x0, x1, x2, x3, x4, x5])).length + 1) * 32 ≤ _; omega, rfl, ?_⟩
                conv => whnf
                refine .frz 3 Sn2 57 2 sentC (told.map (frameS z 1 [x0, x1, x2, x3, x4, x5]) ++ [answerS z 1 ⟨op, [x0, x1, x2, x3, x4, x5], sip, [y0, y1, y2, y3, y4, y5], dip⟩]) rfl (.done S1 _ rfl rfl ⟨?_, d', rfl, f1, f2, f3, by rw [hH0, hL]; exact f4⟩)
                show sentsR _ = sentsR _
                rw [hH0, hL]
                dsimp only
                rw [hans]
                try rfl
  | true =>
    obtain rfl : nic = 0 := of_decide_eq_true hn0
    have e0 := hz 0 (by decide)
    have e1 := hz 1 (by decide)
    have e2 := hz 2 (by decide)
    have e3 := hz 3 (by decide)
    have e4 := hz 4 (by decide)
    have e5 := hz 5 (by decide)
    have e12 := hz 12 (by decide)
    obtain ⟨w12, w13, w16⟩ := cfgW_u32 hw
    have hho := hostF_fn (sip : Int) (d.c 12) (d.c 14) (by omega) w12
    rw [e12] at hho w12
    have hH0 : heardT d.c z d.now T 0 ⟨op, [x0, x1, x2, x3, x4, x5], sip, [y0, y1, y2, y3, y4, y5], dip⟩ = ((learnS d.c z d.now T 0 ⟨op, [x0, x1, x2, x3, x4, x5], sip, [y0, y1, y2, y3, y4, y5], dip⟩).1.map (frameS z 0 [x0, x1, x2, x3, x4, x5]) ++ ansL z 0 ⟨op, [x0, x1, x2, x3, x4, x5], sip, [y0, y1, y2, y3, y4, y5], dip⟩, (learnS d.c z d.now T 0 ⟨op, [x0, x1, x2, x3, x4, x5], sip, [y0, y1, y2, y3, y4, y5], dip⟩).2) := rfl
    conv => whnf
    refine ⟨(show (0 : Int) ≤ 0 ∧ (0 : Int) < ((2 : Nat) : Int) by decide), ?_⟩
    conv => whnf
    rw [e12]
    cases hs : decide ((sip : Int) = (z 12 : Int)) with
    | true =>
      have hL : learnS d.c z d.now T 0 ⟨op, [x0, x1, x2, x3, x4, x5], sip, [y0, y1, y2, y3, y4, y5], dip⟩ = ([], T) := by
        unfold learnS
        exact (show (match decide ((sip : Int) = (z 12 : Int)) with | true => (([], T) : List (List Nat) × List Pl) | false => _) = ([], T) by rw [hs])
      conv => whnf
      cases hop : decide ((op : Int) = 1) with
      | false =>
        have hans : ansL z 0 ⟨op, [x0, x1, x2, x3, x4, x5], sip, [y0, y1, y2, y3, y4, y5], dip⟩ = [] := by unfold ansL; rw [hop]
        conv => whnf
        refine .le (dleRow (L := (heardT d.c z d.now T 0 ⟨op, [x0, x1, x2, x3, x4, x5], sip, [y0, y1, y2, y3, y4, y5], dip⟩).1) ?_ rfl) (.done S _ rfl rfl ⟨rfl, d, rfl, rfl, rfl, rfl, by rw [hH0, hL]; exact hst⟩)
        rw [hH0, hL]
        dsimp only
        rw [hans]
        try rfl
      | true =>
        cases hdp : decide ((dip : Int) = (z 12 : Int)) with
        | false =>
          have hans : ansL z 0 ⟨op, [x0, x1, x2, x3, x4, x5], sip, [y0, y1, y2, y3, y4, y5], dip⟩ = [] := by unfold ansL; rw [hop]; exact (show (match decide ((dip : Int) = (z 12 : Int)) with | false => [] | true => _) = [] by rw [hdp])
          conv => whnf
          rw [hdp]
          conv => whnf
          refine .le (dleRow (L := (heardT d.c z d.now T 0 ⟨op, [x0, x1, x2, x3, x4, x5], sip, [y0, y1, y2, y3, y4, y5], dip⟩).1) ?_ rfl) (.done S _ rfl rfl ⟨rfl, d, rfl, rfl, rfl, rfl, by rw [hH0, hL]; exact hst⟩)
          rw [hH0, hL]
          dsimp only
          rw [hans]
          try rfl
        | true =>
          have hdd : dip = z 12 := by have := of_decide_eq_true hdp; omega
          have hans : ansL z 0 ⟨op, [x0, x1, x2, x3, x4, x5], sip, [y0, y1, y2, y3, y4, y5], dip⟩ = [answerS z 0 ⟨op, [x0, x1, x2, x3, x4, x5], sip, [y0, y1, y2, y3, y4, y5], dip⟩] := by unfold ansL; rw [hop]; exact (show (match decide ((dip : Int) = (z 12 : Int)) with | false => [] | true => _) = _ by rw [hdp])
          have ha := arpAnswer_fn op sip dip x0 x1 x2 x3 x4 x5 y0 y1 y2 y3 y4 y5 (z 0) (z 1) (z 2) (z 3) (z 4) (z 5)
          have hfm := arpFrame_fn 2 dip sip (z 0) (z 1) (z 2) (z 3) (z 4) (z 5) x0 x1 x2 x3 x4 x5 x0 x1 x2 x3 x4 x5
          have hpe := etherPut_fn x0 x1 x2 x3 x4 x5 (z 0) (z 1) (z 2) (z 3) (z 4) (z 5) 2054 (putA ⟨2, [z 0, z 1, z 2, z 3, z 4, z 5], dip, [x0, x1, x2, x3, x4, x5], sip⟩) (by simp [putA, firstA, b2, b4])
          rw [hdd] at ha hfm hpe
          conv => whnf
          rw [hdp]
          conv => whnf
          refine ⟨(show (0 : Int) ≤ 0 ∧ (0 : Int) < ((2 : Nat) : Int) by decide), ?_⟩
          conv => whnf
          rw [e0, e1, e2, e3, e4, e5]
          rw [show ((dip : Nat) : Int) = (z 12 : Int) from of_decide_eq_true hdp]
          (refine CallVC.pure (ha) rfl ?_; rintro _ rfl; conv => whnf)
          (refine CallVC.pure (hfm) rfl ?_; rintro _ rfl; conv => whnf)
          (refine CallVC.pure (hpe) rfl ?_; rintro _ rfl; conv => whnf)
          refine ⟨by decide, ?_⟩
          conv => whnf
          refine ⟨Sn2, sentC, ([] : List Sn2) ++ [answerS z 0 ⟨op, [x0, x1, x2, x3, x4, x5], sip, [y0, y1, y2, y3, y4, y5], dip⟩], by rw [List.map_append]; rfl, fun _ => rfl, by rw [List.length_append]; show 0 + 1 ≤ _; omega, by rw [List.length_append]; show (0 + 1) * 32 ≤ _; omega, rfl, ?_⟩
          conv => whnf
          refine .frz 2 Sn2 57 2 sentC (([] : List Sn2) ++ [answerS z 0 ⟨op, [x0, x1, x2, x3, x4, x5], sip, [y0, y1, y2, y3, y4, y5], dip⟩]) rfl (.done S _ rfl rfl ⟨?_, d, rfl, rfl, rfl, rfl, by rw [hH0, hL]; exact hst⟩)
          show sentsR _ = sentsR _
          rw [hH0, hL]
          dsimp only
          rw [hans]
          try rfl
    | false =>
      conv => whnf
      refine ⟨(show (0 : Int) ≤ 0 ∧ (0 : Int) < ((2 : Nat) : Int) by decide), ?_⟩
      conv => whnf
      cases hho2 : hostB (sip : Int) (z 12 : Int) (d.c 14) with
      | false =>
        rw [hho2] at hho
        have hL : learnS d.c z d.now T 0 ⟨op, [x0, x1, x2, x3, x4, x5], sip, [y0, y1, y2, y3, y4, y5], dip⟩ = ([], T) := by
          unfold learnS
          exact (show (match decide ((sip : Int) = (z 12 : Int)) with | true => (([], T) : List (List Nat) × List Pl) | false => match hostB (sip : Int) (z 12 : Int) (d.c 14) with | false => ([], T) | true => _) = ([], T) by rw [hs, hho2])
        (refine CallVC.pure (hho) rfl ?_; rintro _ rfl; conv => whnf)
        cases hop : decide ((op : Int) = 1) with
        | false =>
          have hans : ansL z 0 ⟨op, [x0, x1, x2, x3, x4, x5], sip, [y0, y1, y2, y3, y4, y5], dip⟩ = [] := by unfold ansL; rw [hop]
          conv => whnf
          refine .le (dleRow (L := (heardT d.c z d.now T 0 ⟨op, [x0, x1, x2, x3, x4, x5], sip, [y0, y1, y2, y3, y4, y5], dip⟩).1) ?_ rfl) (.done S _ rfl rfl ⟨rfl, d, rfl, rfl, rfl, rfl, by rw [hH0, hL]; exact hst⟩)
          rw [hH0, hL]
          dsimp only
          rw [hans]
          try rfl
        | true =>
          cases hdp : decide ((dip : Int) = (z 12 : Int)) with
          | false =>
            have hans : ansL z 0 ⟨op, [x0, x1, x2, x3, x4, x5], sip, [y0, y1, y2, y3, y4, y5], dip⟩ = [] := by unfold ansL; rw [hop]; exact (show (match decide ((dip : Int) = (z 12 : Int)) with | false => [] | true => _) = [] by rw [hdp])
            conv => whnf
            rw [hdp]
            conv => whnf
            refine .le (dleRow (L := (heardT d.c z d.now T 0 ⟨op, [x0, x1, x2, x3, x4, x5], sip, [y0, y1, y2, y3, y4, y5], dip⟩).1) ?_ rfl) (.done S _ rfl rfl ⟨rfl, d, rfl, rfl, rfl, rfl, by rw [hH0, hL]; exact hst⟩)
            rw [hH0, hL]
            dsimp only
            rw [hans]
            try rfl
          | true =>
            have hdd : dip = z 12 := by have := of_decide_eq_true hdp; omega
            have hans : ansL z 0 ⟨op, [x0, x1, x2, x3, x4, x5], sip, [y0, y1, y2, y3, y4, y5], dip⟩ = [answerS z 0 ⟨op, [x0, x1, x2, x3, x4, x5], sip, [y0, y1, y2, y3, y4, y5], dip⟩] := by unfold ansL; rw [hop]; exact (show (match decide ((dip : Int) = (z 12 : Int)) with | false => [] | true => _) = _ by rw [hdp])
            have ha := arpAnswer_fn op sip dip x0 x1 x2 x3 x4 x5 y0 y1 y2 y3 y4 y5 (z 0) (z 1) (z 2) (z 3) (z 4) (z 5)
            have hfm := arpFrame_fn 2 dip sip (z 0) (z 1) (z 2) (z 3) (z 4) (z 5) x0 x1 x2 x3 x4 x5 x0 x1 x2 x3 x4 x5
            have hpe := etherPut_fn x0 x1 x2 x3 x4 x5 (z 0) (z 1) (z 2) (z 3) (z 4) (z 5) 2054 (putA ⟨2, [z 0, z 1, z 2, z 3, z 4, z 5], dip, [x0, x1, x2, x3, x4, x5], sip⟩) (by simp [putA, firstA, b2, b4])
            rw [hdd] at ha hfm hpe
            conv => whnf
            rw [hdp]
            conv => whnf
            refine ⟨(show (0 : Int) ≤ 0 ∧ (0 : Int) < ((2 : Nat) : Int) by decide), ?_⟩
            conv => whnf
            rw [e0, e1, e2, e3, e4, e5]
            rw [show ((dip : Nat) : Int) = (z 12 : Int) from of_decide_eq_true hdp]
            (refine CallVC.pure (ha) rfl ?_; rintro _ rfl; conv => whnf)
            (refine CallVC.pure (hfm) rfl ?_; rintro _ rfl; conv => whnf)
            (refine CallVC.pure (hpe) rfl ?_; rintro _ rfl; conv => whnf)
            refine ⟨by decide, ?_⟩
            conv => whnf
            refine ⟨Sn2, sentC, ([] : List Sn2) ++ [answerS z 0 ⟨op, [x0, x1, x2, x3, x4, x5], sip, [y0, y1, y2, y3, y4, y5], dip⟩], by rw [List.map_append]; rfl, fun _ => rfl, by rw [List.length_append]; show 0 + 1 ≤ _; omega, by rw [List.length_append]; show (0 + 1) * 32 ≤ _; omega, rfl, ?_⟩
            conv => whnf
            refine .frz 2 Sn2 57 2 sentC (([] : List Sn2) ++ [answerS z 0 ⟨op, [x0, x1, x2, x3, x4, x5], sip, [y0, y1, y2, y3, y4, y5], dip⟩]) rfl (.done S _ rfl rfl ⟨?_, d, rfl, rfl, rfl, rfl, by rw [hH0, hL]; exact hst⟩)
            show sentsR _ = sentsR _
            rw [hH0, hL]
            dsimp only
            rw [hans]
            try rfl
      | true =>
        rw [hho2] at hho
        have hkw : keyW ((0 : Int), (sip : Int)) := ⟨⟨by show (0 : Int) ≤ sip; omega, by show (sip : Int) < 4294967296; omega⟩, by show (-9223372036854775808 : Int) ≤ 0; decide, by show (0 : Int) ≤ 9223372036854775807; decide⟩
        have hlearn := learn_ar d T hst (0, (sip : Int)) hkw (macI [x0, x1, x2, x3, x4, x5]) (decide ((dip : Int) = (z 12 : Int))) hn (by omega)
        have hL : learnS d.c z d.now T 0 ⟨op, [x0, x1, x2, x3, x4, x5], sip, [y0, y1, y2, y3, y4, y5], dip⟩ = ((learnT d.c d.now T (0, (sip : Int)) (macI [x0, x1, x2, x3, x4, x5]) (decide ((dip : Int) = (z 12 : Int)))).1.1, (learnT d.c d.now T (0, (sip : Int)) (macI [x0, x1, x2, x3, x4, x5]) (decide ((dip : Int) = (z 12 : Int)))).2) := by
          unfold learnS
          exact (show (match decide ((sip : Int) = (z 12 : Int)) with | true => (([], T) : List (List Nat) × List Pl) | false => match hostB (sip : Int) (z 12 : Int) (d.c 14) with | false => ([], T) | true => _) = _ by rw [hs, hho2]; rfl)
        have hwl := learn_waits_le (c := d.c) (now := d.now) hst.sort (0, (sip : Int)) (macI [x0, x1, x2, x3, x4, x5]) (decide ((dip : Int) = (z 12 : Int)))
        have htold := learn_told2 (c := d.c) (now := d.now) hfr (0, (sip : Int)) (macI [x0, x1, x2, x3, x4, x5]) (decide ((dip : Int) = (z 12 : Int)))
        (refine CallVC.pure (hho) rfl ?_; rintro _ rfl; conv => whnf)
        refine CallVC.ar (i := 0) hlearn rfl rfl ?_
        rintro _ _ S1 ⟨rfl, d', rfl, f1, f2, f3, f4⟩
        clear hlearn
        generalize learnT d.c d.now T (0, (sip : Int)) (macI [x0, x1, x2, x3, x4, x5]) (decide ((dip : Int) = (z 12 : Int))) = G at hL hwl htold f4 ⊢
        obtain ⟨⟨told, ok⟩, T'⟩ := G
        dsimp only at hL hwl htold f4 ⊢
        have hf := fun (l : List Nat) (hl : l.length ≤ 900000) => frame_fn d.c z hz 0 (.inl rfl) x0 x1 x2 x3 x4 x5 l hl
        conv => whnf
        refine ⟨Nat, fun k => ⟨[(68, intD k), (67, intD told.length), (66, wsR told), (8, u32D (z 12)), (7, .grow 2), (5, .loc 1 0), (1, intD 0), (0, netP d.c d.cg)], [(2, .grow Sn2 57 2 sentC ((told.take k).map (frameS z 0 [x0, x1, x2, x3, x4, x5]))), (1, .cells 43 [u16D op, u8D x0, u8D x1, u8D x2, u8D x3, u8D x4, u8D x5, u32D sip, u8D y0, u8D y1, u8D y2, u8D y3, u8D y4, u8D y5, u32D dip]), (0, arL S1 (cacheM d'))], 3, ([], 0)⟩,
          fun k => k ≤ told.length, fun k => told.length - k, ⟨0, [], [2], ?_, Nat.zero_le _⟩, ?_⟩
        · repeat' (first | exact trivial | exact .inl (DLe.refl _) | exact .inl (DLe.nil _ _) | (refine .inr ⟨rfl, _, ?_, rfl⟩; rfl) | exact rfl | exact .inl rfl | exact .inr ⟨rfl, rfl, rfl, rfl⟩ | exact Nat.zero_le _ | constructor)
        intro k hk
        replace hk : k ≤ told.length := hk
        have ek : IntKind.i64.wrap ((k : Int) + 1) = ((k + 1 : Nat) : Int) := by rw [IntWalk.i64_in _ (by omega)]; omega
        dsimp only
        conv => whnf
        refine Fork.intro (fun q => ?_) (fun q => ?_)
        · have q' : k < told.length := by have := of_decide_eq_true q; omega
          obtain ⟨bb, hb⟩ : ∃ bb, told[k]? = some bb := ⟨_, List.getElem?_eq_getElem q'⟩
          have hbl := htold bb (List.mem_of_getElem? hb)
          have htk : told.take (k + 1) = told.take k ++ [bb] := by rw [List.take_add_one, hb]; rfl
          conv => whnf
          refine ⟨rfl, ⟨by omega, by omega⟩, fun y hy => ?_⟩
          obtain rfl : bb = y := Option.some.inj (hb.symm.trans hy)
          conv => whnf
          refine CallVC.wk (fun C vs hr => reps_one (l := []) (dle_fpj _ _) hr) (CallVC.pure (hf bb (by omega)) rfl ?_)
          rintro _ rfl
          conv => whnf
          refine ⟨by decide, ?_⟩
          conv => whnf
          refine ⟨Sn2, sentC, (told.take (k + 1)).map (frameS z 0 [x0, x1, x2, x3, x4, x5]), by rw [htk, List.map_append, List.map_append]; rfl, fun _ => rfl, by rw [List.length_map, List.length_take]; omega, by rw [List.length_map, List.length_take]; show min (k + 1) told.length * 32 ≤ _; omega, rfl, ?_⟩
          conv => whnf
          rw [ek]
          refine ⟨k + 1, [(2, 3)], [], ?_, q', by show told.length - (k + 1) < told.length - k; omega⟩
          repeat' (first | exact trivial | exact .inl (DLe.refl _) | exact .inl (DLe.nil _ _) | (refine .inr ⟨rfl, _, ?_, rfl⟩; rfl) | exact rfl | exact .inl rfl | exact .inr ⟨rfl, rfl, rfl, rfl⟩ | exact Nat.zero_le _ | constructor)
        · have q' : k = told.length := by have := of_decide_eq_false q; omega
          subst q'
          rw [List.take_length]
          have hlm : (told.map (frameS z 0 [x0, x1, x2, x3, x4, x5])).length = told.length := List.length_map _
          conv => whnf
          cases hop : decide ((op : Int) = 1) with
          | false =>
            have hans : ansL z 0 ⟨op, [x0, x1, x2, x3, x4, x5], sip, [y0, y1, y2, y3, y4, y5], dip⟩ = [] := by unfold ansL; rw [hop]
            conv => whnf
            refine .frz 2 Sn2 57 2 sentC (told.map (frameS z 0 [x0, x1, x2, x3, x4, x5])) rfl (.done S1 _ rfl rfl ⟨?_, d', rfl, f1, f2, f3, by rw [hH0, hL]; exact f4⟩)
            show sentsR _ = sentsR _
            rw [hH0, hL]
            dsimp only
            rw [hans, List.append_nil]
            try rfl
          | true =>
            cases hdp : decide ((dip : Int) = (z 12 : Int)) with
            | false =>
              have hans : ansL z 0 ⟨op, [x0, x1, x2, x3, x4, x5], sip, [y0, y1, y2, y3, y4, y5], dip⟩ = [] := by unfold ansL; rw [hop]; exact (show (match decide ((dip : Int) = (z 12 : Int)) with | false => [] | true => _) = [] by rw [hdp])
              conv => whnf
              rw [hdp]
              conv => whnf
              refine .frz 2 Sn2 57 2 sentC (told.map (frameS z 0 [x0, x1, x2, x3, x4, x5])) rfl (.done S1 _ rfl rfl ⟨?_, d', rfl, f1, f2, f3, by rw [hH0, hL]; exact f4⟩)
              show sentsR _ = sentsR _
              rw [hH0, hL]
              dsimp only
              rw [hans, List.append_nil]
              try rfl
            | true =>
              have hdd : dip = z 12 := by have := of_decide_eq_true hdp; omega
              have hans : ansL z 0 ⟨op, [x0, x1, x2, x3, x4, x5], sip, [y0, y1, y2, y3, y4, y5], dip⟩ = [answerS z 0 ⟨op, [x0, x1, x2, x3, x4, x5], sip, [y0, y1, y2, y3, y4, y5], dip⟩] := by unfold ansL; rw [hop]; exact (show (match decide ((dip : Int) = (z 12 : Int)) with | false => [] | true => _) = _ by rw [hdp])
              have ha := arpAnswer_fn op sip dip x0 x1 x2 x3 x4 x5 y0 y1 y2 y3 y4 y5 (z 0) (z 1) (z 2) (z 3) (z 4) (z 5)
              have hfm := arpFrame_fn 2 dip sip (z 0) (z 1) (z 2) (z 3) (z 4) (z 5) x0 x1 x2 x3 x4 x5 x0 x1 x2 x3 x4 x5
              have hpe := etherPut_fn x0 x1 x2 x3 x4 x5 (z 0) (z 1) (z 2) (z 3) (z 4) (z 5) 2054 (putA ⟨2, [z 0, z 1, z 2, z 3, z 4, z 5], dip, [x0, x1, x2, x3, x4, x5], sip⟩) (by simp [putA, firstA, b2, b4])
              rw [hdd] at ha hfm hpe
              conv => whnf
              rw [hdp]
              conv => whnf
              refine ⟨(show (0 : Int) ≤ 0 ∧ (0 : Int) < ((2 : Nat) : Int) by decide), ?_⟩
              conv => whnf
              rw [e0, e1, e2, e3, e4, e5]
              rw [show ((dip : Nat) : Int) = (z 12 : Int) from of_decide_eq_true hdp]
              (refine CallVC.pure (ha) rfl ?_; rintro _ rfl; conv => whnf)
              (refine CallVC.pure (hfm) rfl ?_; rintro _ rfl; conv => whnf)
              (refine CallVC.pure (hpe) rfl ?_; rintro _ rfl; conv => whnf)
              refine ⟨by decide, ?_⟩
              conv => whnf
              refine ⟨Sn2, sentC, told.map (frameS z 0 [x0, x1, x2, x3, x4, x5]) ++ [answerS z 0 ⟨op, [x0, x1, x2, x3, x4, x5], sip, [y0, y1, y2, y3, y4, y5], dip⟩], by rw [List.map_append]; rfl, fun _ => rfl, by rw [List.length_append]; show (told.map (frameS z 0 [x0, x1, x2, x3, x4, x5])).length + 1 ≤ _; omega, by rw [List.length_append]; show ((told.map (frameS z 0 [x0, x1, x2, x3, x4, x5])).length + 1) * 32 ≤ _; omega, rfl, ?_⟩
              conv => whnf
              refine .frz 3 Sn2 57 2 sentC (told.map (frameS z 0 [x0, x1, x2, x3, x4, x5]) ++ [answerS z 0 ⟨op, [x0, x1, x2, x3, x4, x5], sip, [y0, y1, y2, y3, y4, y5], dip⟩]) rfl (.done S1 _ rfl rfl ⟨?_, d', rfl, f1, f2, f3, by rw [hH0, hL]; exact f4⟩)
              show sentsR _ = sentsR _
              rw [hH0, hL]
              dsimp only
              rw [hans]
              try rfl
end Go.Proofs.Ytfepckbhnghpeaa.V
namespace Go.Proofs.Ytfepckbhnghpeaa.V
open Go.RowKit
attribute [local irreducible] Fn FnN FnR OpVC DLe ArC ArL Ob ObS NewS

def tickS (c : Nat → Int) (z : Nat → Nat) (now : Int) (T : List Pl) : List Sn2 × Int := ((asksT c (now + 1) T).map (askS z), (lostT c (now + 1) T : Nat))
theorem asks_keys {c : Nat → Int} {now : Int} {T : List Pl} {k : Int × Int} (h : k ∈ asksT c now T) : ∃ x ∈ T, x.key = k := by
  unfold asksT at h
  obtain ⟨x, hx, e⟩ := List.mem_map.1 h
  exact ⟨x, (List.mem_filter.1 hx).1, e⟩
theorem asks_len (c : Nat → Int) (now : Int) (T : List Pl) : (asksT c now T).length ≤ T.length := by
  unfold asksT
  rw [List.length_map]
  exact List.length_filter_le _ _
set_option maxRecDepth 10000 in
set_option maxHeartbeats 4000000 in
theorem stick_ar (z : Nat → Nat) (d : CDat) (T : List Pl) (hw : cfgW d.c) (hz : cfgZ d.c z) (hst : CStand d T) (hok : TOk T) (hT : T.length ≤ 1000) (hwt : waitsT T ≤ 1000) (hn : 0 ≤ d.now ∧ d.now ≤ 1999999999) (hnic : ∀ x ∈ T, x.nic = 0 ∨ x.nic = 1) :
    ArC Try.prog 10 [netP d.c d.cg] (cacheM d) fun r M => r = .tup [sentsR (tickS d.c z d.now T).1, intD (tickS d.c z d.now T).2] ∧ ∃ d', M = cacheM d' ∧ d'.cg = d.cg ∧ d'.c = d.c ∧ d'.now = d.now + 1 ∧ CStand d' (tickT d.c (d.now + 1) T) := by
  refine arOf [] Try.func10 rfl (by kernel_rfl) (Nat.le_of_ble_eq_true rfl) fun S => ?_
  have htick := tick_ar d T hst hok (cfgW_ok hw) (by omega) (by omega) hn
  have hal := asks_len d.c (d.now + 1) T
  have hak : ∀ k ∈ asksT d.c (d.now + 1) T, (k.1 = 0 ∨ k.1 = 1) ∧ 0 ≤ k.2 := fun k hk => by
    obtain ⟨x, hx, rfl⟩ := asks_keys hk
    exact ⟨hnic x hx, (hst.sort.1 x hx).1⟩
  unfold tickS
  generalize asksT d.c (d.now + 1) T = asks at htick hal hak ⊢
  generalize lostT d.c (d.now + 1) T = lost at htick ⊢
  dsimp only
  conv => whnf
  refine CallVC.ar (i := 0) htick rfl rfl ?_
  rintro _ _ S1 ⟨rfl, d', rfl, f1, f2, f3, f4⟩
  clear htick
  conv => whnf
  refine ⟨Nat, fun k => ⟨[(22, intD k), (21, intD asks.length), (20, plsR asks), (6, intD lost), (4, .grow 1), (0, netP d.c d.cg)], [(1, .grow Sn2 57 2 sentC ((asks.take k).map (askS z))), (0, arL S1 (cacheM d'))], 2, ([], 0)⟩,
    fun k => k ≤ asks.length, fun k => asks.length - k, ⟨0, [], [1], ?_, Nat.zero_le _⟩, ?_⟩
  · repeat' (first | exact trivial | exact .inl (DLe.refl _) | exact .inl (DLe.nil _ _) | (refine .inr ⟨rfl, _, ?_, rfl⟩; rfl) | exact rfl | exact .inl rfl | exact .inr ⟨rfl, rfl, rfl, rfl⟩ | exact Nat.zero_le _ | constructor)
  intro k hk
  replace hk : k ≤ asks.length := hk
  have ek : IntKind.i64.wrap ((k : Int) + 1) = ((k + 1 : Nat) : Int) := by rw [IntWalk.i64_in _ (by omega)]; omega
  dsimp only
  conv => whnf
  refine Fork.intro (fun q => ?_) (fun q => ?_)
  · have q' : k < asks.length := by have := of_decide_eq_true q; omega
    obtain ⟨bb, hb⟩ : ∃ bb, asks[k]? = some bb := ⟨_, List.getElem?_eq_getElem q'⟩
    have hbk := hak bb (List.mem_of_getElem? hb)
    have hf := ask_fn d.c z hz bb hbk.1 hbk.2
    have htk : asks.take (k + 1) = asks.take k ++ [bb] := by rw [List.take_add_one, hb]; rfl
    conv => whnf
    refine ⟨rfl, ⟨by omega, by omega⟩, fun y hy => ?_⟩
    obtain rfl : bb = y := Option.some.inj (hb.symm.trans hy)
    conv => whnf
    refine CallVC.wk (fun C vs hr => reps_one (l := []) (dle_fpj _ _) hr) (CallVC.pure hf rfl ?_)
    rintro _ rfl
    conv => whnf
    refine ⟨by decide, ?_⟩
    conv => whnf
    refine ⟨Sn2, sentC, (asks.take (k + 1)).map (askS z), by rw [htk, List.map_append, List.map_append]; rfl, fun _ => rfl, by rw [List.length_map, List.length_take]; omega, by rw [List.length_map, List.length_take]; show min (k + 1) asks.length * 32 ≤ _; omega, rfl, ?_⟩
    conv => whnf
    rw [ek]
    refine ⟨k + 1, [(1, 3)], [], ?_, q', by show asks.length - (k + 1) < asks.length - k; omega⟩
    repeat' (first | exact trivial | exact .inl (DLe.refl _) | exact .inl (DLe.nil _ _) | (refine .inr ⟨rfl, _, ?_, rfl⟩; rfl) | exact rfl | exact .inl rfl | exact .inr ⟨rfl, rfl, rfl, rfl⟩ | exact Nat.zero_le _ | constructor)
  · have q' : k = asks.length := by have := of_decide_eq_false q; omega
    subst q'
    rw [List.take_length]
    conv => whnf
    exact .frz 1 Sn2 57 2 sentC (asks.map (askS z)) rfl (.done S1 _ rfl rfl ⟨rfl, d', rfl, f1, f2, f3, f4⟩)

/-! ### Looks -/
theorem nwaits_gen (M : Ar) (d : CDat) (hM : Holds M d) : ArC Try.prog 14 [netP d.c d.cg] M fun r M' => r = intD (waitsL d.L) ∧ M' = M := by
  refine arOf [] Try.func14 rfl (by kernel_rfl) (Nat.le_of_ble_eq_true rfl) fun S => ?_
  have hwts := waits_fn d
  have hh := hM.hdr
  conv => whnf
  refine CallVC.lookA (i := 0) hwts rfl rfl (conv_fp hh) ?_
  rintro _ rfl
  conv => whnf
  exact .done S _ rfl rfl ⟨rfl, rfl⟩
theorem len_gen (M : Ar) (d : CDat) (h : COk d) (hM0 : Holds M d) : ArL Try.prog 44 [ptrD d.cg] M fun v => v = .int .i64 (d.L.length : Nat) := by
  unfold ArL
  refine ⟨⟨_, Try.func44, rfl⟩, fun w B args' hB hM hr => ?_⟩
  obtain ⟨hal, har⟩ := hr
  obtain ⟨va, rfl⟩ : ∃ va, args' = [va] := by
    match args', hal with
    | [x], _ => exact ⟨x, rfl⟩
  have ha := rep_v (har 0 _ va rfl rfl)
  subst ha
  obtain ⟨c, hc, hrp⟩ := hM _ _ hM0.hdr
  have hmp : w.heap[d.mg]? = some (mapO d) := hM _ _ hM0.map
  have hcell : w.cell? ⟨d.cg, 41, none⟩ = some (.map (some d.mg)) := by
    have hl : c.toList.length = (hdrC d).length := hrp.1
    obtain ⟨u, hu⟩ : ∃ u, c.toList[41]? = some u := ⟨_, List.getElem?_eq_getElem (by rw [hl]; exact Nat.le_of_ble_eq_true rfl)⟩
    have := rep_v (hrp.2 41 (.v (.map (some d.mg))) u rfl hu)
    subst this
    have hc : w.heap[d.cg]? = some (.cells c 108 (0, 0)) := hc
    rw [Array.getElem?_toList] at hu
    simp [World.cell?, hc, hu]
  refine (calls_drawn (Go.Proofs.Ytfepckbhnghpeaa.len_walk d.cg d.mg _ d.clk w hcell hmp)).mono fun e w' hh => ?_
  obtain ⟨⟨h1, h2⟩, h3⟩ := hh
  subst h2
  refine ⟨_, ?_, h1, ⟨Below.refl _ _, h3 ⟨_, h1⟩⟩⟩
  simp
theorem nlen_gen (M : Ar) (d : CDat) (h : COk d) (hM : Holds M d) : ArC Try.prog 15 [netP d.c d.cg] M fun r M' => r = intD (d.L.length : Nat) ∧ M' = M := by
  refine arOf [] Try.func15 rfl (by kernel_rfl) (Nat.le_of_ble_eq_true rfl) fun S => ?_
  have hln := len_gen M d h hM
  conv => whnf
  refine CallVC.arL (i := 0) hln rfl rfl ?_
  rintro _ rfl
  conv => whnf
  exact .done S _ rfl rfl ⟨rfl, rfl⟩
theorem holds_ex {d : CDat} (h : COk d) : Holds (exAr (cacheM d)) d := ⟨exAr_in cache_hdr (exact_of rfl), exAr_in (cache_map h) trivial, fun p hp => exAr_in (cache_pr h hp) (exact_of rfl)⟩
theorem CallVC.nwaits {g : Bool} {s : St} {K : D → St → Prop} {i : Nat} {S : Nat → Prop} {d : CDat} {T : List Pl} (hid : lget s.H i = some (V.arL S (cacheM d))) (hst : CStand d T) (h : K (intD (waitsT T)) s) : CallVC Try.prog g 14 [netP d.c d.cg] s K := by
  refine CallVC.arX (i := i) (nwaits_gen _ d (holds_ex hst.ok)) hid rfl (fun k x hx => (exAr_of hx).1) (fun k x hx => (exAr_of hx).2) (fun d M' hq => hq.2) fun r hq => ?_
  rw [hq.1, hst.waits]
  exact h
theorem CallVC.nlen {g : Bool} {s : St} {K : D → St → Prop} {i : Nat} {S : Nat → Prop} {d : CDat} {T : List Pl} (hid : lget s.H i = some (V.arL S (cacheM d))) (hst : CStand d T) (h : K (intD (T.length : Nat)) s) : CallVC Try.prog g 15 [netP d.c d.cg] s K := by
  refine CallVC.arX (i := i) (nlen_gen _ d hst.ok (holds_ex hst.ok)) hid rfl (fun k x hx => (exAr_of hx).1) (fun k x hx => (exAr_of hx).2) (fun d M' hq => hq.2) fun r hq => ?_
  rw [hq.1, hst.len]
  exact h
end Go.Proofs.Ytfepckbhnghpeaa.V
